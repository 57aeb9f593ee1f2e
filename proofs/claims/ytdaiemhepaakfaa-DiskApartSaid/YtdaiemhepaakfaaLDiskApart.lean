/- DiskApart: the walk. What is done to a slot changes the other by nothing. Written by gen_disklaw.py. -/
import Derived.Test.YtdaiemhepaakfaaDiskMore
import Derived.Test.YtdaiemhepaakfaaDiskCrash
import Derived.Test.YtdaiemhepaakfaaOpenDisk
namespace Go.Proofs.Ytdaiemhepaakfaa
open Go.ChangeShapes Go.WideShapes Go.RowKit
set_option linter.unusedVariables false
set_option linter.unusedSimpArgs false
set_option maxRecDepth 100000
set_option maxHeartbeats 4000000
theorem _root_.Go.RowKit.Below.drewN_ {B : Nat} {a w : World} (h : Below B a w) (n : Nat) : Below B a (w.drewN n) := below_drewN h n
/- What is held across a region that draws: two blocks, their cells, and that below nothing has turned. -/
theorem held_alloc {w0 w : World} {g g' : Nat} {t t' : TypeId} {v0 v1 v2 v3 x0 x1 x2 x3 : Value} (h : Blk w g t #[v0, v1, v2, v3] ∧ Blk w g' t' #[x0, x1, x2, x3] ∧ Below w0.heap.size w0 w ∧ w.cell? ⟨g, 0, none⟩ = some v0 ∧ w.cell? ⟨g, 1, none⟩ = some v1 ∧ w.cell? ⟨g, 2, none⟩ = some v2 ∧ w.cell? ⟨g, 3, none⟩ = some v3 ∧ w.cell? ⟨g', 0, none⟩ = some x0 ∧ w.cell? ⟨g', 1, none⟩ = some x1 ∧ w.cell? ⟨g', 2, none⟩ = some x2 ∧ w.cell? ⟨g', 3, none⟩ = some x3) (o : Obj) : Blk (w.alloc o) g t #[v0, v1, v2, v3] ∧ Blk (w.alloc o) g' t' #[x0, x1, x2, x3] ∧ Below w0.heap.size w0 (w.alloc o) ∧ (w.alloc o).cell? ⟨g, 0, none⟩ = some v0 ∧ (w.alloc o).cell? ⟨g, 1, none⟩ = some v1 ∧ (w.alloc o).cell? ⟨g, 2, none⟩ = some v2 ∧ (w.alloc o).cell? ⟨g, 3, none⟩ = some v3 ∧ (w.alloc o).cell? ⟨g', 0, none⟩ = some x0 ∧ (w.alloc o).cell? ⟨g', 1, none⟩ = some x1 ∧ (w.alloc o).cell? ⟨g', 2, none⟩ = some x2 ∧ (w.alloc o).cell? ⟨g', 3, none⟩ = some x3 :=
  have hC := h.1.alloc o
  have hD := h.2.1.alloc o
  ⟨hC, hD, h.2.2.1.alloc h.2.2.1.size o, hC.cell 0, hC.cell 1, hC.cell 2, hC.cell 3, hD.cell 0, hD.cell 1, hD.cell 2, hD.cell 3⟩
theorem held_below {w0 w : World} {g g' : Nat} {t t' : TypeId} {v0 v1 v2 v3 x0 x1 x2 x3 : Value} {w' : World} (h : Blk w g t #[v0, v1, v2, v3] ∧ Blk w g' t' #[x0, x1, x2, x3] ∧ Below w0.heap.size w0 w ∧ w.cell? ⟨g, 0, none⟩ = some v0 ∧ w.cell? ⟨g, 1, none⟩ = some v1 ∧ w.cell? ⟨g, 2, none⟩ = some v2 ∧ w.cell? ⟨g, 3, none⟩ = some v3 ∧ w.cell? ⟨g', 0, none⟩ = some x0 ∧ w.cell? ⟨g', 1, none⟩ = some x1 ∧ w.cell? ⟨g', 2, none⟩ = some x2 ∧ w.cell? ⟨g', 3, none⟩ = some x3) (hb : Below w.heap.size w w') : Blk w' g t #[v0, v1, v2, v3] ∧ Blk w' g' t' #[x0, x1, x2, x3] ∧ Below w0.heap.size w0 w' ∧ w'.cell? ⟨g, 0, none⟩ = some v0 ∧ w'.cell? ⟨g, 1, none⟩ = some v1 ∧ w'.cell? ⟨g, 2, none⟩ = some v2 ∧ w'.cell? ⟨g, 3, none⟩ = some v3 ∧ w'.cell? ⟨g', 0, none⟩ = some x0 ∧ w'.cell? ⟨g', 1, none⟩ = some x1 ∧ w'.cell? ⟨g', 2, none⟩ = some x2 ∧ w'.cell? ⟨g', 3, none⟩ = some x3 :=
  have hC := h.1.below hb h.1.lt
  have hD := h.2.1.below hb h.2.1.lt
  ⟨hC, hD, h.2.2.1.trans (hb.mono h.2.2.1.size), hC.cell 0, hC.cell 1, hC.cell 2, hC.cell 3, hD.cell 0, hD.cell 1, hD.cell 2, hD.cell 3⟩
theorem held_drew {w0 w : World} {g g' : Nat} {t t' : TypeId} {v0 v1 v2 v3 x0 x1 x2 x3 : Value} (h : Blk w g t #[v0, v1, v2, v3] ∧ Blk w g' t' #[x0, x1, x2, x3] ∧ Below w0.heap.size w0 w ∧ w.cell? ⟨g, 0, none⟩ = some v0 ∧ w.cell? ⟨g, 1, none⟩ = some v1 ∧ w.cell? ⟨g, 2, none⟩ = some v2 ∧ w.cell? ⟨g, 3, none⟩ = some v3 ∧ w.cell? ⟨g', 0, none⟩ = some x0 ∧ w.cell? ⟨g', 1, none⟩ = some x1 ∧ w.cell? ⟨g', 2, none⟩ = some x2 ∧ w.cell? ⟨g', 3, none⟩ = some x3) : Blk w.drew g t #[v0, v1, v2, v3] ∧ Blk w.drew g' t' #[x0, x1, x2, x3] ∧ Below w0.heap.size w0 w.drew ∧ w.drew.cell? ⟨g, 0, none⟩ = some v0 ∧ w.drew.cell? ⟨g, 1, none⟩ = some v1 ∧ w.drew.cell? ⟨g, 2, none⟩ = some v2 ∧ w.drew.cell? ⟨g, 3, none⟩ = some v3 ∧ w.drew.cell? ⟨g', 0, none⟩ = some x0 ∧ w.drew.cell? ⟨g', 1, none⟩ = some x1 ∧ w.drew.cell? ⟨g', 2, none⟩ = some x2 ∧ w.drew.cell? ⟨g', 3, none⟩ = some x3 :=
  have hC := h.1.drew
  have hD := h.2.1.drew
  ⟨hC, hD, h.2.2.1.drew, hC.cell 0, hC.cell 1, hC.cell 2, hC.cell 3, hD.cell 0, hD.cell 1, hD.cell 2, hD.cell 3⟩
theorem held_of {w0 w : World} {g g' : Nat} {t t' : TypeId} {v0 v1 v2 v3 x0 x1 x2 x3 : Value} (h : Blk w g t #[v0, v1, v2, v3]) (h' : Blk w g' t' #[x0, x1, x2, x3]) (hb : Below w0.heap.size w0 w) : Blk w g t #[v0, v1, v2, v3] ∧ Blk w g' t' #[x0, x1, x2, x3] ∧ Below w0.heap.size w0 w ∧ w.cell? ⟨g, 0, none⟩ = some v0 ∧ w.cell? ⟨g, 1, none⟩ = some v1 ∧ w.cell? ⟨g, 2, none⟩ = some v2 ∧ w.cell? ⟨g, 3, none⟩ = some v3 ∧ w.cell? ⟨g', 0, none⟩ = some x0 ∧ w.cell? ⟨g', 1, none⟩ = some x1 ∧ w.cell? ⟨g', 2, none⟩ = some x2 ∧ w.cell? ⟨g', 3, none⟩ = some x3 :=
  have hC := h
  have hD := h'
  ⟨hC, hD, hb, hC.cell 0, hC.cell 1, hC.cell 2, hC.cell 3, hD.cell 0, hD.cell 1, hD.cell 2, hD.cell 3⟩
theorem held_set4 {w0 w : World} {g g' : Nat} {t t' : TypeId} {v0 v1 v2 v3 x0 x1 x2 x3 : Value} {q : Nat} {a0 a1 a2 a3 : Value} (h : Blk w g t #[v0, v1, v2, v3] ∧ Blk w g' t' #[x0, x1, x2, x3] ∧ Below w0.heap.size w0 w ∧ w.cell? ⟨g, 0, none⟩ = some v0 ∧ w.cell? ⟨g, 1, none⟩ = some v1 ∧ w.cell? ⟨g, 2, none⟩ = some v2 ∧ w.cell? ⟨g, 3, none⟩ = some v3 ∧ w.cell? ⟨g', 0, none⟩ = some x0 ∧ w.cell? ⟨g', 1, none⟩ = some x1 ∧ w.cell? ⟨g', 2, none⟩ = some x2 ∧ w.cell? ⟨g', 3, none⟩ = some x3) (hq : g < q) (hq' : g' < q) (hq0 : w0.heap.size ≤ q) : Blk ((((w.setCell ⟨q, 0, none⟩ a0).setCell ⟨q, 1, none⟩ a1).setCell ⟨q, 2, none⟩ a2).setCell ⟨q, 3, none⟩ a3) g t #[v0, v1, v2, v3] ∧ Blk ((((w.setCell ⟨q, 0, none⟩ a0).setCell ⟨q, 1, none⟩ a1).setCell ⟨q, 2, none⟩ a2).setCell ⟨q, 3, none⟩ a3) g' t' #[x0, x1, x2, x3] ∧ Below w0.heap.size w0 ((((w.setCell ⟨q, 0, none⟩ a0).setCell ⟨q, 1, none⟩ a1).setCell ⟨q, 2, none⟩ a2).setCell ⟨q, 3, none⟩ a3) ∧ ((((w.setCell ⟨q, 0, none⟩ a0).setCell ⟨q, 1, none⟩ a1).setCell ⟨q, 2, none⟩ a2).setCell ⟨q, 3, none⟩ a3).cell? ⟨g, 0, none⟩ = some v0 ∧ ((((w.setCell ⟨q, 0, none⟩ a0).setCell ⟨q, 1, none⟩ a1).setCell ⟨q, 2, none⟩ a2).setCell ⟨q, 3, none⟩ a3).cell? ⟨g, 1, none⟩ = some v1 ∧ ((((w.setCell ⟨q, 0, none⟩ a0).setCell ⟨q, 1, none⟩ a1).setCell ⟨q, 2, none⟩ a2).setCell ⟨q, 3, none⟩ a3).cell? ⟨g, 2, none⟩ = some v2 ∧ ((((w.setCell ⟨q, 0, none⟩ a0).setCell ⟨q, 1, none⟩ a1).setCell ⟨q, 2, none⟩ a2).setCell ⟨q, 3, none⟩ a3).cell? ⟨g, 3, none⟩ = some v3 ∧ ((((w.setCell ⟨q, 0, none⟩ a0).setCell ⟨q, 1, none⟩ a1).setCell ⟨q, 2, none⟩ a2).setCell ⟨q, 3, none⟩ a3).cell? ⟨g', 0, none⟩ = some x0 ∧ ((((w.setCell ⟨q, 0, none⟩ a0).setCell ⟨q, 1, none⟩ a1).setCell ⟨q, 2, none⟩ a2).setCell ⟨q, 3, none⟩ a3).cell? ⟨g', 1, none⟩ = some x1 ∧ ((((w.setCell ⟨q, 0, none⟩ a0).setCell ⟨q, 1, none⟩ a1).setCell ⟨q, 2, none⟩ a2).setCell ⟨q, 3, none⟩ a3).cell? ⟨g', 2, none⟩ = some x2 ∧ ((((w.setCell ⟨q, 0, none⟩ a0).setCell ⟨q, 1, none⟩ a1).setCell ⟨q, 2, none⟩ a2).setCell ⟨q, 3, none⟩ a3).cell? ⟨g', 3, none⟩ = some x3 :=
  have hC := (((h.1.far (p := ⟨q, 0, none⟩) (by simp only; omega) a0).far (p := ⟨q, 1, none⟩) (by simp only; omega) a1).far (p := ⟨q, 2, none⟩) (by simp only; omega) a2).far (p := ⟨q, 3, none⟩) (by simp only; omega) a3
  have hD := (((h.2.1.far (p := ⟨q, 0, none⟩) (by simp only; omega) a0).far (p := ⟨q, 1, none⟩) (by simp only; omega) a1).far (p := ⟨q, 2, none⟩) (by simp only; omega) a2).far (p := ⟨q, 3, none⟩) (by simp only; omega) a3
  ⟨hC, hD, (((h.2.2.1.setCell (p := ⟨q, 0, none⟩) hq0 a0).setCell (p := ⟨q, 1, none⟩) hq0 a1).setCell (p := ⟨q, 2, none⟩) hq0 a2).setCell (p := ⟨q, 3, none⟩) hq0 a3, hC.cell 0, hC.cell 1, hC.cell 2, hC.cell 3, hD.cell 0, hD.cell 1, hD.cell 2, hD.cell 3⟩
theorem cut_app (a : ByteArray) (m : Nat) : a.extract 0 m ++ a.extract m a.size = a := by
  apply bs_ext
  rw [bs_append, bs_extract, bs_extract, List.drop_zero, show List.take a.size a.data.toList = a.data.toList from List.take_of_length_le (by rw [bs_len]; exact Nat.le_refl _)]
  exact List.take_append_drop _ _
theorem dlook_of_good (x y : Slt) (i : Int) (h : i = 0 ∨ i = 1) (h1 : (x.1.size : Int) ≤ 1048576) (h2 : (y.1.size : Int) ≤ 1048576) (h3 : 0 ≤ x.2) (h4 : x.2 ≤ (x.1.size : Int)) (h5 : 0 ≤ y.2) (h6 : y.2 ≤ (y.1.size : Int)) : dlook x y i = 0 := by
  have hx : sbad x = 0 := by unfold sbad; rw [if_neg (by omega), if_neg (by omega)]
  have hy : sbad y = 0 := by unfold sbad; rw [if_neg (by omega), if_neg (by omega)]
  unfold dlook dchk
  rw [hx, hy]
  simp
  omega

theorem apart_look (a b : ByteArray) (sa sb : Int) (i : Int) (s : ByteArray) (hs : s.size ≤ 140737488351232) (n : Int) (h : dlook (a, sa) (b, sb) i ≠ 0) (w : World) :
    Calls Try.prog 13 #[dvl (a, sa) (b, sb), .int .i64 i, .string s, .int .i64 n] w fun e w' => e = .returned (.bool true) ∧ Below w.heap.size w w' := by
  have hbw0 : Below w.heap.size w w := Below.refl _ _
  unfold dvl
  simp only
  go_enter Try.func13, Try.ntmps13
  have hbw1 := hbw0.alloc hbw0.size (.cells #[.string a, .int .i64 sa, .string b, .int .i64 sb] 56)
  have kd1 := Blk.new w 56 #[.string a, .int .i64 sa, .string b, .int .i64 sb]
  go_wp2_with fail
  refine (dtrim_good (⟨#[97, 98]⟩, 2) dzero 0 1 _ (by decide) (by decide)).mono ?_
  rintro e w2 ⟨rfl, hb2⟩
  have hbw2 := hbw1.trans (hb2.mono hbw1.size)
  have kd2 := kd1.below hb2 kd1.lt
  clear hb2
  rw [show dtrm (⟨#[97, 98]⟩, 2) dzero 0 ((1 : Nat) : Int) = ((⟨#[97]⟩, 1), dzero) from by decide]
  unfold dres dvl dzero
  simp only
  have cd2_0 := kd2.cell 0
  have cd2_1 := kd2.cell 1
  have cd2_2 := kd2.cell 2
  have cd2_3 := kd2.cell 3
  have ld2 := kd2.lt
  go_wp2_with fail
  clear cd2_0 cd2_1 cd2_2 cd2_3
  have hbw3 := hbw2.alloc hbw2.size (.cells #[.string ⟨#[97]⟩, .int .i64 1, .string ⟨#[]⟩, .int .i64 0] 56)
  have kd3 := kd2.alloc (.cells #[.string ⟨#[97]⟩, .int .i64 1, .string ⟨#[]⟩, .int .i64 0] 56)
  have kx3 := Blk.new w2 56 #[.string ⟨#[97]⟩, .int .i64 1, .string ⟨#[]⟩, .int .i64 0]
  have hne : ((dlook (a, sa) (b, sb) i) != 0) = true := by simpa using h
  refine (dappend_look (a, sa) (b, sb) i s _ h).mono ?_
  rintro e w4 ⟨rfl, hb4⟩
  have hbw4 := hbw3.trans (hb4.mono hbw3.size)
  have kd4 := kd3.below hb4 kd3.lt
  have kx4 := kx3.below hb4 kx3.lt
  clear hb4
  unfold dres dvl dzero
  simp only
  have cd4_0 := kd4.cell 0
  have cd4_1 := kd4.cell 1
  have cd4_2 := kd4.cell 2
  have cd4_3 := kd4.cell 3
  have ld4 := kd4.lt
  go_wp2_with fail
  clear cd4_0 cd4_1 cd4_2 cd4_3
  have hbw5 := hbw4.alloc hbw4.size (.cells #[.string ⟨#[]⟩, .int .i64 0, .string ⟨#[]⟩, .int .i64 0] 56)
  have kd5 := kd4.alloc (.cells #[.string ⟨#[]⟩, .int .i64 0, .string ⟨#[]⟩, .int .i64 0] 56)
  have kx5 := kx4.alloc (.cells #[.string ⟨#[]⟩, .int .i64 0, .string ⟨#[]⟩, .int .i64 0] 56)
  have ka5 := Blk.new w4 56 #[.string ⟨#[]⟩, .int .i64 0, .string ⟨#[]⟩, .int .i64 0]
  refine (dsync_look (a, sa) (b, sb) i _ h).mono ?_
  rintro e w6 ⟨rfl, hb6⟩
  have hbw6 := hbw5.trans (hb6.mono hbw5.size)
  have kd6 := kd5.below hb6 kd5.lt
  have kx6 := kx5.below hb6 kx5.lt
  have ka6 := ka5.below hb6 ka5.lt
  clear hb6
  unfold dres dvl dzero
  simp only
  have cd6_0 := kd6.cell 0
  have cd6_1 := kd6.cell 1
  have cd6_2 := kd6.cell 2
  have cd6_3 := kd6.cell 3
  have ld6 := kd6.lt
  go_wp2_with fail
  clear cd6_0 cd6_1 cd6_2 cd6_3
  have hbw7 := hbw6.alloc hbw6.size (.cells #[.string ⟨#[]⟩, .int .i64 0, .string ⟨#[]⟩, .int .i64 0] 56)
  have kd7 := kd6.alloc (.cells #[.string ⟨#[]⟩, .int .i64 0, .string ⟨#[]⟩, .int .i64 0] 56)
  have kx7 := kx6.alloc (.cells #[.string ⟨#[]⟩, .int .i64 0, .string ⟨#[]⟩, .int .i64 0] 56)
  have ka7 := ka6.alloc (.cells #[.string ⟨#[]⟩, .int .i64 0, .string ⟨#[]⟩, .int .i64 0] 56)
  have kb7 := Blk.new w6 56 #[.string ⟨#[]⟩, .int .i64 0, .string ⟨#[]⟩, .int .i64 0]
  refine (dtrim_look (a, sa) (b, sb) i n _ h).mono ?_
  rintro e w8 ⟨rfl, hb8⟩
  have hbw8 := hbw7.trans (hb8.mono hbw7.size)
  have kd8 := kd7.below hb8 kd7.lt
  have kx8 := kx7.below hb8 kx7.lt
  have ka8 := ka7.below hb8 ka7.lt
  have kb8 := kb7.below hb8 kb7.lt
  clear hb8
  unfold dres dvl dzero
  simp only
  have cd8_0 := kd8.cell 0
  have cd8_1 := kd8.cell 1
  have cd8_2 := kd8.cell 2
  have cd8_3 := kd8.cell 3
  have ld8 := kd8.lt
  go_wp2_with fail
  go_ret
  exact ⟨rfl, hbw8.alloc hbw8.size _⟩
theorem apart_000 (a b : ByteArray) (sa sb : Int) (s : ByteArray) (hs : s.size ≤ 140737488351232) (n : Int) (h : dlook (a, sa) (b, sb) 0 = 0) (ha : ¬ (1048576 < a.size + s.size)) (hn : n < 0 ∨ (a.size : Int) < n) (w : World) :
    Calls Try.prog 13 #[dvl (a, sa) (b, sb), .int .i64 0, .string s, .int .i64 n] w fun e w' => e = .returned (.bool true) ∧ Below w.heap.size w w' := by
  have hbw0 : Below w.heap.size w w := Below.refl _ _
  have hz := dlook_zero _ _ _ h
  simp only at hz
  obtain ⟨_, hsa, hsb, ha0, ha1, hb0, hb1'⟩ := hz
  have hav : Hid (dapp (a, sa) (b, sb) 0 s = ((a ++ s, sa), (b, sb), 0)) := by unfold dapp; rw [if_pos rfl]; rw [if_neg (by simp only; omega)]; exact Lib.hid rfl
  unfold dvl
  simp only
  go_enter Try.func13, Try.ntmps13
  have hbw1 := hbw0.alloc hbw0.size (.cells #[.string a, .int .i64 sa, .string b, .int .i64 sb] 56)
  have kd1 := Blk.new w 56 #[.string a, .int .i64 sa, .string b, .int .i64 sb]
  go_wp2_with fail
  refine (dtrim_good (⟨#[97, 98]⟩, 2) dzero 0 1 _ (by decide) (by decide)).mono ?_
  rintro e w2 ⟨rfl, hb2⟩
  have hbw2 := hbw1.trans (hb2.mono hbw1.size)
  have kd2 := kd1.below hb2 kd1.lt
  clear hb2
  rw [show dtrm (⟨#[97, 98]⟩, 2) dzero 0 ((1 : Nat) : Int) = ((⟨#[97]⟩, 1), dzero) from by decide]
  unfold dres dvl dzero
  simp only
  have cd2_0 := kd2.cell 0
  have cd2_1 := kd2.cell 1
  have cd2_2 := kd2.cell 2
  have cd2_3 := kd2.cell 3
  have ld2 := kd2.lt
  go_wp2_with fail
  clear cd2_0 cd2_1 cd2_2 cd2_3
  have hbw3 := hbw2.alloc hbw2.size (.cells #[.string ⟨#[97]⟩, .int .i64 1, .string ⟨#[]⟩, .int .i64 0] 56)
  have kd3 := kd2.alloc (.cells #[.string ⟨#[97]⟩, .int .i64 1, .string ⟨#[]⟩, .int .i64 0] 56)
  have kx3 := Blk.new w2 56 #[.string ⟨#[97]⟩, .int .i64 1, .string ⟨#[]⟩, .int .i64 0]
  refine (dappend_good (a, sa) (b, sb) 0 s (by omega) _ h).mono ?_
  rintro e w4 ⟨rfl, hb4⟩
  have hbw4 := hbw3.trans (hb4.mono hbw3.size)
  have kd4 := kd3.below hb4 kd3.lt
  have kx4 := kx3.below hb4 kx3.lt
  clear hb4
  rw [hav.out]
  unfold dres dvl
  simp only
  have cd4_0 := kd4.cell 0
  have cd4_1 := kd4.cell 1
  have cd4_2 := kd4.cell 2
  have cd4_3 := kd4.cell 3
  have ld4 := kd4.lt
  go_wp2_with fail
  clear cd4_0 cd4_1 cd4_2 cd4_3
  have hbw5 := hbw4.alloc hbw4.size (.cells #[.string (a ++ s), .int .i64 sa, .string b, .int .i64 sb] 56)
  have kd5 := kd4.alloc (.cells #[.string (a ++ s), .int .i64 sa, .string b, .int .i64 sb] 56)
  have kx5 := kx4.alloc (.cells #[.string (a ++ s), .int .i64 sa, .string b, .int .i64 sb] 56)
  have ka5 := Blk.new w4 56 #[.string (a ++ s), .int .i64 sa, .string b, .int .i64 sb]
  refine (dsync_good (a, sa) (b, sb) 0 _ h).mono ?_
  rintro e w6 ⟨rfl, hb6⟩
  have hbw6 := hbw5.trans (hb6.mono hbw5.size)
  have kd6 := kd5.below hb6 kd5.lt
  have kx6 := kx5.below hb6 kx5.lt
  have ka6 := ka5.below hb6 ka5.lt
  clear hb6
  rw [show dsyn (a, sa) (b, sb) 0 = ((a, (a.size : Int)), (b, sb)) from rfl]
  unfold dres dvl
  simp only
  have cd6_0 := kd6.cell 0
  have cd6_1 := kd6.cell 1
  have cd6_2 := kd6.cell 2
  have cd6_3 := kd6.cell 3
  have ld6 := kd6.lt
  go_wp2_with fail
  clear cd6_0 cd6_1 cd6_2 cd6_3
  have hbw7 := hbw6.alloc hbw6.size (.cells #[.string a, .int .i64 (a.size : Int), .string b, .int .i64 sb] 56)
  have kd7 := kd6.alloc (.cells #[.string a, .int .i64 (a.size : Int), .string b, .int .i64 sb] 56)
  have kx7 := kx6.alloc (.cells #[.string a, .int .i64 (a.size : Int), .string b, .int .i64 sb] 56)
  have ka7 := ka6.alloc (.cells #[.string a, .int .i64 (a.size : Int), .string b, .int .i64 sb] 56)
  have kb7 := Blk.new w6 56 #[.string a, .int .i64 (a.size : Int), .string b, .int .i64 sb]
  refine (dtrim_bad (a, sa) (b, sb) 0 n _ h (by simpa using hn)).mono ?_
  rintro e w8 ⟨rfl, hb8⟩
  have hbw8 := hbw7.trans (hb8.mono hbw7.size)
  have kd8 := kd7.below hb8 kd7.lt
  have kx8 := kx7.below hb8 kx7.lt
  have ka8 := ka7.below hb8 ka7.lt
  have kb8 := kb7.below hb8 kb7.lt
  clear hb8
  unfold dres dvl dzero
  simp only
  have cd8_0 := kd8.cell 0
  have cd8_1 := kd8.cell 1
  have cd8_2 := kd8.cell 2
  have cd8_3 := kd8.cell 3
  have ca8_0 := ka8.cell 0
  have ca8_1 := ka8.cell 1
  have ca8_2 := ka8.cell 2
  have ca8_3 := ka8.cell 3
  have cb8_0 := kb8.cell 0
  have cb8_1 := kb8.cell 1
  have cb8_2 := kb8.cell 2
  have cb8_3 := kb8.cell 3
  have ld8 := kd8.lt
  have la8 := ka8.lt
  have lb8 := kb8.lt
  go_wp2_with fail
  go_quiet (fail)
  go_wp2_with fail
  go_ret
  exact ⟨rfl, ((hbw8.alloc hbw8.size _).alloc (by have := hbw8.size; simp; omega) _).drewN_ _⟩
theorem apart_001 (a b : ByteArray) (sa sb : Int) (s : ByteArray) (hs : s.size ≤ 140737488351232)  (h : dlook (a, sa) (b, sb) 0 = 0) (ha : ¬ (1048576 < a.size + s.size)) (m : Nat) (hm : (m : Int) ≤ (a.size : Int)) (w : World) :
    Calls Try.prog 13 #[dvl (a, sa) (b, sb), .int .i64 0, .string s, .int .i64 m] w fun e w' => e = .returned (.bool true) ∧ Below w.heap.size w w' := by
  have hbw0 : Below w.heap.size w w := Below.refl _ _
  have hz := dlook_zero _ _ _ h
  simp only at hz
  obtain ⟨_, hsa, hsb, ha0, ha1, hb0, hb1'⟩ := hz
  have hav : Hid (dapp (a, sa) (b, sb) 0 s = ((a ++ s, sa), (b, sb), 0)) := by unfold dapp; rw [if_pos rfl]; rw [if_neg (by simp only; omega)]; exact Lib.hid rfl
  unfold dvl
  simp only
  go_enter Try.func13, Try.ntmps13
  have hbw1 := hbw0.alloc hbw0.size (.cells #[.string a, .int .i64 sa, .string b, .int .i64 sb] 56)
  have kd1 := Blk.new w 56 #[.string a, .int .i64 sa, .string b, .int .i64 sb]
  go_wp2_with fail
  refine (dtrim_good (⟨#[97, 98]⟩, 2) dzero 0 1 _ (by decide) (by decide)).mono ?_
  rintro e w2 ⟨rfl, hb2⟩
  have hbw2 := hbw1.trans (hb2.mono hbw1.size)
  have kd2 := kd1.below hb2 kd1.lt
  clear hb2
  rw [show dtrm (⟨#[97, 98]⟩, 2) dzero 0 ((1 : Nat) : Int) = ((⟨#[97]⟩, 1), dzero) from by decide]
  unfold dres dvl dzero
  simp only
  have cd2_0 := kd2.cell 0
  have cd2_1 := kd2.cell 1
  have cd2_2 := kd2.cell 2
  have cd2_3 := kd2.cell 3
  have ld2 := kd2.lt
  go_wp2_with fail
  clear cd2_0 cd2_1 cd2_2 cd2_3
  have hbw3 := hbw2.alloc hbw2.size (.cells #[.string ⟨#[97]⟩, .int .i64 1, .string ⟨#[]⟩, .int .i64 0] 56)
  have kd3 := kd2.alloc (.cells #[.string ⟨#[97]⟩, .int .i64 1, .string ⟨#[]⟩, .int .i64 0] 56)
  have kx3 := Blk.new w2 56 #[.string ⟨#[97]⟩, .int .i64 1, .string ⟨#[]⟩, .int .i64 0]
  refine (dappend_good (a, sa) (b, sb) 0 s (by omega) _ h).mono ?_
  rintro e w4 ⟨rfl, hb4⟩
  have hbw4 := hbw3.trans (hb4.mono hbw3.size)
  have kd4 := kd3.below hb4 kd3.lt
  have kx4 := kx3.below hb4 kx3.lt
  clear hb4
  rw [hav.out]
  unfold dres dvl
  simp only
  have cd4_0 := kd4.cell 0
  have cd4_1 := kd4.cell 1
  have cd4_2 := kd4.cell 2
  have cd4_3 := kd4.cell 3
  have ld4 := kd4.lt
  go_wp2_with fail
  clear cd4_0 cd4_1 cd4_2 cd4_3
  have hbw5 := hbw4.alloc hbw4.size (.cells #[.string (a ++ s), .int .i64 sa, .string b, .int .i64 sb] 56)
  have kd5 := kd4.alloc (.cells #[.string (a ++ s), .int .i64 sa, .string b, .int .i64 sb] 56)
  have kx5 := kx4.alloc (.cells #[.string (a ++ s), .int .i64 sa, .string b, .int .i64 sb] 56)
  have ka5 := Blk.new w4 56 #[.string (a ++ s), .int .i64 sa, .string b, .int .i64 sb]
  refine (dsync_good (a, sa) (b, sb) 0 _ h).mono ?_
  rintro e w6 ⟨rfl, hb6⟩
  have hbw6 := hbw5.trans (hb6.mono hbw5.size)
  have kd6 := kd5.below hb6 kd5.lt
  have kx6 := kx5.below hb6 kx5.lt
  have ka6 := ka5.below hb6 ka5.lt
  clear hb6
  rw [show dsyn (a, sa) (b, sb) 0 = ((a, (a.size : Int)), (b, sb)) from rfl]
  unfold dres dvl
  simp only
  have cd6_0 := kd6.cell 0
  have cd6_1 := kd6.cell 1
  have cd6_2 := kd6.cell 2
  have cd6_3 := kd6.cell 3
  have ld6 := kd6.lt
  go_wp2_with fail
  clear cd6_0 cd6_1 cd6_2 cd6_3
  have hbw7 := hbw6.alloc hbw6.size (.cells #[.string a, .int .i64 (a.size : Int), .string b, .int .i64 sb] 56)
  have kd7 := kd6.alloc (.cells #[.string a, .int .i64 (a.size : Int), .string b, .int .i64 sb] 56)
  have kx7 := kx6.alloc (.cells #[.string a, .int .i64 (a.size : Int), .string b, .int .i64 sb] 56)
  have ka7 := ka6.alloc (.cells #[.string a, .int .i64 (a.size : Int), .string b, .int .i64 sb] 56)
  have kb7 := Blk.new w6 56 #[.string a, .int .i64 (a.size : Int), .string b, .int .i64 sb]
  refine (dtrim_good (a, sa) (b, sb) 0 m _ h (by simpa using hm)).mono ?_
  rintro e w8 ⟨rfl, hb8⟩
  have hbw8 := hbw7.trans (hb8.mono hbw7.size)
  have kd8 := kd7.below hb8 kd7.lt
  have kx8 := kx7.below hb8 kx7.lt
  have ka8 := ka7.below hb8 ka7.lt
  have kb8 := kb7.below hb8 kb7.lt
  clear hb8
  rw [show dtrm (a, sa) (b, sb) 0 (m : Int) = ((a.extract 0 m, min sa m), (b, sb)) from rfl]
  unfold dres dvl
  simp only
  have cd8_0 := kd8.cell 0
  have cd8_1 := kd8.cell 1
  have cd8_2 := kd8.cell 2
  have cd8_3 := kd8.cell 3
  have ca8_0 := ka8.cell 0
  have ca8_1 := ka8.cell 1
  have ca8_2 := ka8.cell 2
  have ca8_3 := ka8.cell 3
  have cb8_0 := kb8.cell 0
  have cb8_1 := kb8.cell 1
  have cb8_2 := kb8.cell 2
  have cb8_3 := kb8.cell 3
  have ld8 := kd8.lt
  have la8 := ka8.lt
  have lb8 := kb8.lt
  go_wp2_with fail
  go_quiet (fail)
  go_wp2_with fail
  clear cd8_0 cd8_1 cd8_2 cd8_3 ca8_0 ca8_1 ca8_2 ca8_3 cb8_0 cb8_1 cb8_2 cb8_3
  have hbw9 := hbw8.alloc hbw8.size (.cells #[.string (a.extract 0 m), .int .i64 (min sa m), .string b, .int .i64 sb] 56)
  have kd9 := kd8.alloc (.cells #[.string (a.extract 0 m), .int .i64 (min sa m), .string b, .int .i64 sb] 56)
  have kx9 := kx8.alloc (.cells #[.string (a.extract 0 m), .int .i64 (min sa m), .string b, .int .i64 sb] 56)
  have ka9 := ka8.alloc (.cells #[.string (a.extract 0 m), .int .i64 (min sa m), .string b, .int .i64 sb] 56)
  have kb9 := kb8.alloc (.cells #[.string (a.extract 0 m), .int .i64 (min sa m), .string b, .int .i64 sb] 56)
  have kc9 := Blk.new w8 56 #[.string (a.extract 0 m), .int .i64 (min sa m), .string b, .int .i64 sb]
  have hbw10 := hbw9.alloc hbw9.size (.cells #[.string b, .int .i64 sb] 53)
  have kd10 := kd9.alloc (.cells #[.string b, .int .i64 sb] 53)
  have kx10 := kx9.alloc (.cells #[.string b, .int .i64 sb] 53)
  have ka10 := ka9.alloc (.cells #[.string b, .int .i64 sb] 53)
  have kb10 := kb9.alloc (.cells #[.string b, .int .i64 sb] 53)
  have kc10 := kc9.alloc (.cells #[.string b, .int .i64 sb] 53)
  have ko10 := Blk.new (w8.alloc (.cells #[.string (a.extract 0 m), .int .i64 (min sa m), .string b, .int .i64 sb] 56)) 53 #[.string b, .int .i64 sb]
  have hbX := below_drewN hbw10 nq
  have kdX := kd10.drewN nq
  have kcX := kc10.drewN nq
  generalize hW : (((w8.alloc (.cells #[.string (a.extract 0 m), .int .i64 (min sa m), .string b, .int .i64 sb] 56)).alloc (.cells #[.string b, .int .i64 sb] 53)).drewN nq) = W1 at *
  clear hW
  have cdX_0 := kdX.cell 0
  have cdX_1 := kdX.cell 1
  have cdX_2 := kdX.cell 2
  have cdX_3 := kdX.cell 3
  have ccX_0 := kcX.cell 0
  have ccX_1 := kcX.cell 1
  have ccX_2 := kcX.cell 2
  have ccX_3 := kcX.cell 3
  have ldX := kdX.lt
  have lcX := kcX.lt
  have hEx : Hid (a.extract 0 m ++ a.extract m a.size = a) := Lib.hid (cut_app _ _)
  have hszx : (a.extract 0 m).size = m := by rw [← bs_len, bs_extract, List.length_drop, List.length_take, bs_len]; omega
  have hszy : (a.extract m a.size).size = a.size - m := by rw [← bs_len, bs_extract, List.length_drop, List.length_take, bs_len]; omega
  have hlk : dlook (a.extract 0 m, min sa m) (b, sb) 0 = 0 := dlook_of_good _ _ _ (by left; rfl) (by simp only; omega) (by simp only; omega) (by simp only; omega) (by simp only; omega) (by simp only; omega) (by simp only; omega)
  have hdv : dapp (a.extract 0 m, min sa m) (b, sb) 0 (a.extract m a.size) = ((a, min sa m), (b, sb), 0) := by unfold dapp; rw [if_pos rfl]; rw [if_neg (by simp only; omega)]; simp only; rw [hEx.out]
  have hc := fun w0 => dappend_good (a.extract 0 m, min sa m) (b, sb) 0 (a.extract m a.size) (by omega) w0 hlk
  rw [hdv] at hc
  unfold dvl dres dvl at hc
  simp only at hc
  have Hc := Lib.hid hc
  clear hc hdv hlk hszx hszy
  have hm0 : (0 : Int) ≤ (m : Int) := by omega
  have hHd : Blk W1 w8.heap.size 56 #[.string (a.extract 0 m), .int .i64 (min sa m), .string b, .int .i64 sb] ∧ Blk W1 w.heap.size 56 #[.string a, .int .i64 sa, .string b, .int .i64 sb] ∧ Below w.heap.size w W1 ∧ W1.cell? ⟨w8.heap.size, 0, none⟩ = some (.string (a.extract 0 m)) ∧ W1.cell? ⟨w8.heap.size, 1, none⟩ = some (.int .i64 (min sa m)) ∧ W1.cell? ⟨w8.heap.size, 2, none⟩ = some (.string b) ∧ W1.cell? ⟨w8.heap.size, 3, none⟩ = some (.int .i64 sb) ∧ W1.cell? ⟨w.heap.size, 0, none⟩ = some (.string a) ∧ W1.cell? ⟨w.heap.size, 1, none⟩ = some (.int .i64 sa) ∧ W1.cell? ⟨w.heap.size, 2, none⟩ = some (.string b) ∧ W1.cell? ⟨w.heap.size, 3, none⟩ = some (.int .i64 sb) := held_of kcX kdX hbX
  go_region_held3 (fun w' => Blk w' w8.heap.size 56 #[.string (a.extract 0 m), .int .i64 (min sa m), .string b, .int .i64 sb] ∧ Blk w' w.heap.size 56 #[.string a, .int .i64 sa, .string b, .int .i64 sb] ∧ Below w.heap.size w w' ∧ w'.cell? ⟨w8.heap.size, 0, none⟩ = some (.string (a.extract 0 m)) ∧ w'.cell? ⟨w8.heap.size, 1, none⟩ = some (.int .i64 (min sa m)) ∧ w'.cell? ⟨w8.heap.size, 2, none⟩ = some (.string b) ∧ w'.cell? ⟨w8.heap.size, 3, none⟩ = some (.int .i64 sb) ∧ w'.cell? ⟨w.heap.size, 0, none⟩ = some (.string a) ∧ w'.cell? ⟨w.heap.size, 1, none⟩ = some (.int .i64 sa) ∧ w'.cell? ⟨w.heap.size, 2, none⟩ = some (.string b) ∧ w'.cell? ⟨w.heap.size, 3, none⟩ = some (.int .i64 sb)) (first | with_reducible assumption | with_reducible exact held_drew (by assumption) | with_reducible exact held_alloc (by assumption) _ | with_reducible exact held_drew (held_alloc hHd _) | with_reducible exact held_set4 (by assumption) lcX ldX hbX.size) ((first | (go_at_call 25; ((with_reducible refine (Hc.out _).mono ?_)); rintro e w9 ⟨rfl, hb9⟩; ((with_reducible have nB : Blk w9 W1.heap.size 56 #[.string ⟨#[]⟩, .int .i64 0, .string ⟨#[]⟩, .int .i64 0] := Blk.below (w := (W1.alloc (.cells #[.string ⟨#[]⟩, .int .i64 0, .string ⟨#[]⟩, .int .i64 0] 56)).drew) (Blk.drew (Blk.new W1 56 #[.string ⟨#[]⟩, .int .i64 0, .string ⟨#[]⟩, .int .i64 0])) hb9 (by simp))); have n0 := nB.cell 0; have n1 := nB.cell 1; have n2 := nB.cell 2; have n3 := nB.cell 3; have m0 := nB.frozen 0; have m1 := nB.frozen 1; have m2 := nB.frozen 2; have m3 := nB.frozen 3; have gC : Blk w9 w8.heap.size 56 #[.string (a.extract 0 m), .int .i64 (min sa m), .string b, .int .i64 sb] ∧ Blk w9 w.heap.size 56 #[.string a, .int .i64 sa, .string b, .int .i64 sb] ∧ Below w.heap.size w w9 ∧ w9.cell? ⟨w8.heap.size, 0, none⟩ = some (.string (a.extract 0 m)) ∧ w9.cell? ⟨w8.heap.size, 1, none⟩ = some (.int .i64 (min sa m)) ∧ w9.cell? ⟨w8.heap.size, 2, none⟩ = some (.string b) ∧ w9.cell? ⟨w8.heap.size, 3, none⟩ = some (.int .i64 sb) ∧ w9.cell? ⟨w.heap.size, 0, none⟩ = some (.string a) ∧ w9.cell? ⟨w.heap.size, 1, none⟩ = some (.int .i64 sa) ∧ w9.cell? ⟨w.heap.size, 2, none⟩ = some (.string b) ∧ w9.cell? ⟨w.heap.size, 3, none⟩ = some (.int .i64 sb) := held_below (by assumption) hb9) | (go_at_call 25; ((with_reducible refine (Hc.out _).mono ?_)); rintro e w9 ⟨rfl, hb9⟩; have gC : Blk w9 w8.heap.size 56 #[.string (a.extract 0 m), .int .i64 (min sa m), .string b, .int .i64 sb] ∧ Blk w9 w.heap.size 56 #[.string a, .int .i64 sa, .string b, .int .i64 sb] ∧ Below w.heap.size w w9 ∧ w9.cell? ⟨w8.heap.size, 0, none⟩ = some (.string (a.extract 0 m)) ∧ w9.cell? ⟨w8.heap.size, 1, none⟩ = some (.int .i64 (min sa m)) ∧ w9.cell? ⟨w8.heap.size, 2, none⟩ = some (.string b) ∧ w9.cell? ⟨w8.heap.size, 3, none⟩ = some (.int .i64 sb) ∧ w9.cell? ⟨w.heap.size, 0, none⟩ = some (.string a) ∧ w9.cell? ⟨w.heap.size, 1, none⟩ = some (.int .i64 sa) ∧ w9.cell? ⟨w.heap.size, 2, none⟩ = some (.string b) ∧ w9.cell? ⟨w.heap.size, 3, none⟩ = some (.int .i64 sb) := held_below (by assumption) hb9)))
  all_goals go_wp2_with fail
  all_goals go_quiet (fail)
  all_goals go_wp2_with fail
  all_goals go_ret
  all_goals refine ⟨?_, ?_⟩
  all_goals first | exact below_drewN (Below.alloc gC.2.2.1 (Below.size gC.2.2.1) _) _ | exact below_drewN (((((Below.setCell gC.2.2.1 (p := ⟨W1.heap.size, 0, none⟩) hbX.size _).setCell (p := ⟨W1.heap.size, 1, none⟩) hbX.size _).setCell (p := ⟨W1.heap.size, 2, none⟩) hbX.size _).setCell (p := ⟨W1.heap.size, 3, none⟩) hbX.size _)) _ | (show Ending.returned (.bool (decide (min sa (m : Int) ≤ sa))) = _; rw [decide_eq_true (by omega)]) | rfl
theorem apart_010 (a b : ByteArray) (sa sb : Int) (s : ByteArray) (hs : s.size ≤ 140737488351232) (n : Int) (h : dlook (a, sa) (b, sb) 0 = 0) (ha : (1048576 < a.size + s.size)) (hn : n < 0 ∨ (a.size : Int) < n) (w : World) :
    Calls Try.prog 13 #[dvl (a, sa) (b, sb), .int .i64 0, .string s, .int .i64 n] w fun e w' => e = .returned (.bool true) ∧ Below w.heap.size w w' := by
  have hbw0 : Below w.heap.size w w := Below.refl _ _
  have hz := dlook_zero _ _ _ h
  simp only at hz
  obtain ⟨_, hsa, hsb, ha0, ha1, hb0, hb1'⟩ := hz
  have hav : Hid (dapp (a, sa) (b, sb) 0 s = (dzero, dzero, 2)) := by unfold dapp; rw [if_pos rfl]; rw [if_pos (by simp only; omega)]; exact Lib.hid rfl
  unfold dvl
  simp only
  go_enter Try.func13, Try.ntmps13
  have hbw1 := hbw0.alloc hbw0.size (.cells #[.string a, .int .i64 sa, .string b, .int .i64 sb] 56)
  have kd1 := Blk.new w 56 #[.string a, .int .i64 sa, .string b, .int .i64 sb]
  go_wp2_with fail
  refine (dtrim_good (⟨#[97, 98]⟩, 2) dzero 0 1 _ (by decide) (by decide)).mono ?_
  rintro e w2 ⟨rfl, hb2⟩
  have hbw2 := hbw1.trans (hb2.mono hbw1.size)
  have kd2 := kd1.below hb2 kd1.lt
  clear hb2
  rw [show dtrm (⟨#[97, 98]⟩, 2) dzero 0 ((1 : Nat) : Int) = ((⟨#[97]⟩, 1), dzero) from by decide]
  unfold dres dvl dzero
  simp only
  have cd2_0 := kd2.cell 0
  have cd2_1 := kd2.cell 1
  have cd2_2 := kd2.cell 2
  have cd2_3 := kd2.cell 3
  have ld2 := kd2.lt
  go_wp2_with fail
  clear cd2_0 cd2_1 cd2_2 cd2_3
  have hbw3 := hbw2.alloc hbw2.size (.cells #[.string ⟨#[97]⟩, .int .i64 1, .string ⟨#[]⟩, .int .i64 0] 56)
  have kd3 := kd2.alloc (.cells #[.string ⟨#[97]⟩, .int .i64 1, .string ⟨#[]⟩, .int .i64 0] 56)
  have kx3 := Blk.new w2 56 #[.string ⟨#[97]⟩, .int .i64 1, .string ⟨#[]⟩, .int .i64 0]
  refine (dappend_good (a, sa) (b, sb) 0 s (by omega) _ h).mono ?_
  rintro e w4 ⟨rfl, hb4⟩
  have hbw4 := hbw3.trans (hb4.mono hbw3.size)
  have kd4 := kd3.below hb4 kd3.lt
  have kx4 := kx3.below hb4 kx3.lt
  clear hb4
  rw [hav.out]
  unfold dres dvl dzero
  simp only
  have cd4_0 := kd4.cell 0
  have cd4_1 := kd4.cell 1
  have cd4_2 := kd4.cell 2
  have cd4_3 := kd4.cell 3
  have ld4 := kd4.lt
  go_wp2_with fail
  clear cd4_0 cd4_1 cd4_2 cd4_3
  have hbw5 := hbw4.alloc hbw4.size (.cells #[.string ⟨#[]⟩, .int .i64 0, .string ⟨#[]⟩, .int .i64 0] 56)
  have kd5 := kd4.alloc (.cells #[.string ⟨#[]⟩, .int .i64 0, .string ⟨#[]⟩, .int .i64 0] 56)
  have kx5 := kx4.alloc (.cells #[.string ⟨#[]⟩, .int .i64 0, .string ⟨#[]⟩, .int .i64 0] 56)
  have ka5 := Blk.new w4 56 #[.string ⟨#[]⟩, .int .i64 0, .string ⟨#[]⟩, .int .i64 0]
  refine (dsync_good (a, sa) (b, sb) 0 _ h).mono ?_
  rintro e w6 ⟨rfl, hb6⟩
  have hbw6 := hbw5.trans (hb6.mono hbw5.size)
  have kd6 := kd5.below hb6 kd5.lt
  have kx6 := kx5.below hb6 kx5.lt
  have ka6 := ka5.below hb6 ka5.lt
  clear hb6
  rw [show dsyn (a, sa) (b, sb) 0 = ((a, (a.size : Int)), (b, sb)) from rfl]
  unfold dres dvl
  simp only
  have cd6_0 := kd6.cell 0
  have cd6_1 := kd6.cell 1
  have cd6_2 := kd6.cell 2
  have cd6_3 := kd6.cell 3
  have ld6 := kd6.lt
  go_wp2_with fail
  clear cd6_0 cd6_1 cd6_2 cd6_3
  have hbw7 := hbw6.alloc hbw6.size (.cells #[.string a, .int .i64 (a.size : Int), .string b, .int .i64 sb] 56)
  have kd7 := kd6.alloc (.cells #[.string a, .int .i64 (a.size : Int), .string b, .int .i64 sb] 56)
  have kx7 := kx6.alloc (.cells #[.string a, .int .i64 (a.size : Int), .string b, .int .i64 sb] 56)
  have ka7 := ka6.alloc (.cells #[.string a, .int .i64 (a.size : Int), .string b, .int .i64 sb] 56)
  have kb7 := Blk.new w6 56 #[.string a, .int .i64 (a.size : Int), .string b, .int .i64 sb]
  refine (dtrim_bad (a, sa) (b, sb) 0 n _ h (by simpa using hn)).mono ?_
  rintro e w8 ⟨rfl, hb8⟩
  have hbw8 := hbw7.trans (hb8.mono hbw7.size)
  have kd8 := kd7.below hb8 kd7.lt
  have kx8 := kx7.below hb8 kx7.lt
  have ka8 := ka7.below hb8 ka7.lt
  have kb8 := kb7.below hb8 kb7.lt
  clear hb8
  unfold dres dvl dzero
  simp only
  have cd8_0 := kd8.cell 0
  have cd8_1 := kd8.cell 1
  have cd8_2 := kd8.cell 2
  have cd8_3 := kd8.cell 3
  have ca8_0 := ka8.cell 0
  have ca8_1 := ka8.cell 1
  have ca8_2 := ka8.cell 2
  have ca8_3 := ka8.cell 3
  have cb8_0 := kb8.cell 0
  have cb8_1 := kb8.cell 1
  have cb8_2 := kb8.cell 2
  have cb8_3 := kb8.cell 3
  have ld8 := kd8.lt
  have la8 := ka8.lt
  have lb8 := kb8.lt
  go_wp2_with fail
  go_quiet (fail)
  go_wp2_with fail
  go_ret
  exact ⟨rfl, ((hbw8.alloc hbw8.size _).alloc (by have := hbw8.size; simp; omega) _).drewN_ _⟩
theorem apart_011 (a b : ByteArray) (sa sb : Int) (s : ByteArray) (hs : s.size ≤ 140737488351232)  (h : dlook (a, sa) (b, sb) 0 = 0) (ha : (1048576 < a.size + s.size)) (m : Nat) (hm : (m : Int) ≤ (a.size : Int)) (w : World) :
    Calls Try.prog 13 #[dvl (a, sa) (b, sb), .int .i64 0, .string s, .int .i64 m] w fun e w' => e = .returned (.bool true) ∧ Below w.heap.size w w' := by
  have hbw0 : Below w.heap.size w w := Below.refl _ _
  have hz := dlook_zero _ _ _ h
  simp only at hz
  obtain ⟨_, hsa, hsb, ha0, ha1, hb0, hb1'⟩ := hz
  have hav : Hid (dapp (a, sa) (b, sb) 0 s = (dzero, dzero, 2)) := by unfold dapp; rw [if_pos rfl]; rw [if_pos (by simp only; omega)]; exact Lib.hid rfl
  unfold dvl
  simp only
  go_enter Try.func13, Try.ntmps13
  have hbw1 := hbw0.alloc hbw0.size (.cells #[.string a, .int .i64 sa, .string b, .int .i64 sb] 56)
  have kd1 := Blk.new w 56 #[.string a, .int .i64 sa, .string b, .int .i64 sb]
  go_wp2_with fail
  refine (dtrim_good (⟨#[97, 98]⟩, 2) dzero 0 1 _ (by decide) (by decide)).mono ?_
  rintro e w2 ⟨rfl, hb2⟩
  have hbw2 := hbw1.trans (hb2.mono hbw1.size)
  have kd2 := kd1.below hb2 kd1.lt
  clear hb2
  rw [show dtrm (⟨#[97, 98]⟩, 2) dzero 0 ((1 : Nat) : Int) = ((⟨#[97]⟩, 1), dzero) from by decide]
  unfold dres dvl dzero
  simp only
  have cd2_0 := kd2.cell 0
  have cd2_1 := kd2.cell 1
  have cd2_2 := kd2.cell 2
  have cd2_3 := kd2.cell 3
  have ld2 := kd2.lt
  go_wp2_with fail
  clear cd2_0 cd2_1 cd2_2 cd2_3
  have hbw3 := hbw2.alloc hbw2.size (.cells #[.string ⟨#[97]⟩, .int .i64 1, .string ⟨#[]⟩, .int .i64 0] 56)
  have kd3 := kd2.alloc (.cells #[.string ⟨#[97]⟩, .int .i64 1, .string ⟨#[]⟩, .int .i64 0] 56)
  have kx3 := Blk.new w2 56 #[.string ⟨#[97]⟩, .int .i64 1, .string ⟨#[]⟩, .int .i64 0]
  refine (dappend_good (a, sa) (b, sb) 0 s (by omega) _ h).mono ?_
  rintro e w4 ⟨rfl, hb4⟩
  have hbw4 := hbw3.trans (hb4.mono hbw3.size)
  have kd4 := kd3.below hb4 kd3.lt
  have kx4 := kx3.below hb4 kx3.lt
  clear hb4
  rw [hav.out]
  unfold dres dvl dzero
  simp only
  have cd4_0 := kd4.cell 0
  have cd4_1 := kd4.cell 1
  have cd4_2 := kd4.cell 2
  have cd4_3 := kd4.cell 3
  have ld4 := kd4.lt
  go_wp2_with fail
  clear cd4_0 cd4_1 cd4_2 cd4_3
  have hbw5 := hbw4.alloc hbw4.size (.cells #[.string ⟨#[]⟩, .int .i64 0, .string ⟨#[]⟩, .int .i64 0] 56)
  have kd5 := kd4.alloc (.cells #[.string ⟨#[]⟩, .int .i64 0, .string ⟨#[]⟩, .int .i64 0] 56)
  have kx5 := kx4.alloc (.cells #[.string ⟨#[]⟩, .int .i64 0, .string ⟨#[]⟩, .int .i64 0] 56)
  have ka5 := Blk.new w4 56 #[.string ⟨#[]⟩, .int .i64 0, .string ⟨#[]⟩, .int .i64 0]
  refine (dsync_good (a, sa) (b, sb) 0 _ h).mono ?_
  rintro e w6 ⟨rfl, hb6⟩
  have hbw6 := hbw5.trans (hb6.mono hbw5.size)
  have kd6 := kd5.below hb6 kd5.lt
  have kx6 := kx5.below hb6 kx5.lt
  have ka6 := ka5.below hb6 ka5.lt
  clear hb6
  rw [show dsyn (a, sa) (b, sb) 0 = ((a, (a.size : Int)), (b, sb)) from rfl]
  unfold dres dvl
  simp only
  have cd6_0 := kd6.cell 0
  have cd6_1 := kd6.cell 1
  have cd6_2 := kd6.cell 2
  have cd6_3 := kd6.cell 3
  have ld6 := kd6.lt
  go_wp2_with fail
  clear cd6_0 cd6_1 cd6_2 cd6_3
  have hbw7 := hbw6.alloc hbw6.size (.cells #[.string a, .int .i64 (a.size : Int), .string b, .int .i64 sb] 56)
  have kd7 := kd6.alloc (.cells #[.string a, .int .i64 (a.size : Int), .string b, .int .i64 sb] 56)
  have kx7 := kx6.alloc (.cells #[.string a, .int .i64 (a.size : Int), .string b, .int .i64 sb] 56)
  have ka7 := ka6.alloc (.cells #[.string a, .int .i64 (a.size : Int), .string b, .int .i64 sb] 56)
  have kb7 := Blk.new w6 56 #[.string a, .int .i64 (a.size : Int), .string b, .int .i64 sb]
  refine (dtrim_good (a, sa) (b, sb) 0 m _ h (by simpa using hm)).mono ?_
  rintro e w8 ⟨rfl, hb8⟩
  have hbw8 := hbw7.trans (hb8.mono hbw7.size)
  have kd8 := kd7.below hb8 kd7.lt
  have kx8 := kx7.below hb8 kx7.lt
  have ka8 := ka7.below hb8 ka7.lt
  have kb8 := kb7.below hb8 kb7.lt
  clear hb8
  rw [show dtrm (a, sa) (b, sb) 0 (m : Int) = ((a.extract 0 m, min sa m), (b, sb)) from rfl]
  unfold dres dvl
  simp only
  have cd8_0 := kd8.cell 0
  have cd8_1 := kd8.cell 1
  have cd8_2 := kd8.cell 2
  have cd8_3 := kd8.cell 3
  have ca8_0 := ka8.cell 0
  have ca8_1 := ka8.cell 1
  have ca8_2 := ka8.cell 2
  have ca8_3 := ka8.cell 3
  have cb8_0 := kb8.cell 0
  have cb8_1 := kb8.cell 1
  have cb8_2 := kb8.cell 2
  have cb8_3 := kb8.cell 3
  have ld8 := kd8.lt
  have la8 := ka8.lt
  have lb8 := kb8.lt
  go_wp2_with fail
  go_quiet (fail)
  go_wp2_with fail
  clear cd8_0 cd8_1 cd8_2 cd8_3 ca8_0 ca8_1 ca8_2 ca8_3 cb8_0 cb8_1 cb8_2 cb8_3
  have hbw9 := hbw8.alloc hbw8.size (.cells #[.string (a.extract 0 m), .int .i64 (min sa m), .string b, .int .i64 sb] 56)
  have kd9 := kd8.alloc (.cells #[.string (a.extract 0 m), .int .i64 (min sa m), .string b, .int .i64 sb] 56)
  have kx9 := kx8.alloc (.cells #[.string (a.extract 0 m), .int .i64 (min sa m), .string b, .int .i64 sb] 56)
  have ka9 := ka8.alloc (.cells #[.string (a.extract 0 m), .int .i64 (min sa m), .string b, .int .i64 sb] 56)
  have kb9 := kb8.alloc (.cells #[.string (a.extract 0 m), .int .i64 (min sa m), .string b, .int .i64 sb] 56)
  have kc9 := Blk.new w8 56 #[.string (a.extract 0 m), .int .i64 (min sa m), .string b, .int .i64 sb]
  have hbw10 := hbw9.alloc hbw9.size (.cells #[.string b, .int .i64 sb] 53)
  have kd10 := kd9.alloc (.cells #[.string b, .int .i64 sb] 53)
  have kx10 := kx9.alloc (.cells #[.string b, .int .i64 sb] 53)
  have ka10 := ka9.alloc (.cells #[.string b, .int .i64 sb] 53)
  have kb10 := kb9.alloc (.cells #[.string b, .int .i64 sb] 53)
  have kc10 := kc9.alloc (.cells #[.string b, .int .i64 sb] 53)
  have ko10 := Blk.new (w8.alloc (.cells #[.string (a.extract 0 m), .int .i64 (min sa m), .string b, .int .i64 sb] 56)) 53 #[.string b, .int .i64 sb]
  have hbX := below_drewN hbw10 nq
  have kdX := kd10.drewN nq
  have kcX := kc10.drewN nq
  generalize hW : (((w8.alloc (.cells #[.string (a.extract 0 m), .int .i64 (min sa m), .string b, .int .i64 sb] 56)).alloc (.cells #[.string b, .int .i64 sb] 53)).drewN nq) = W1 at *
  clear hW
  have cdX_0 := kdX.cell 0
  have cdX_1 := kdX.cell 1
  have cdX_2 := kdX.cell 2
  have cdX_3 := kdX.cell 3
  have ccX_0 := kcX.cell 0
  have ccX_1 := kcX.cell 1
  have ccX_2 := kcX.cell 2
  have ccX_3 := kcX.cell 3
  have ldX := kdX.lt
  have lcX := kcX.lt
  have hEx : Hid (a.extract 0 m ++ a.extract m a.size = a) := Lib.hid (cut_app _ _)
  have hszx : (a.extract 0 m).size = m := by rw [← bs_len, bs_extract, List.length_drop, List.length_take, bs_len]; omega
  have hszy : (a.extract m a.size).size = a.size - m := by rw [← bs_len, bs_extract, List.length_drop, List.length_take, bs_len]; omega
  have hlk : dlook (a.extract 0 m, min sa m) (b, sb) 0 = 0 := dlook_of_good _ _ _ (by left; rfl) (by simp only; omega) (by simp only; omega) (by simp only; omega) (by simp only; omega) (by simp only; omega) (by simp only; omega)
  have hdv : dapp (a.extract 0 m, min sa m) (b, sb) 0 (a.extract m a.size) = ((a, min sa m), (b, sb), 0) := by unfold dapp; rw [if_pos rfl]; rw [if_neg (by simp only; omega)]; simp only; rw [hEx.out]
  have hc := fun w0 => dappend_good (a.extract 0 m, min sa m) (b, sb) 0 (a.extract m a.size) (by omega) w0 hlk
  rw [hdv] at hc
  unfold dvl dres dvl at hc
  simp only at hc
  have Hc := Lib.hid hc
  clear hc hdv hlk hszx hszy
  have hm0 : (0 : Int) ≤ (m : Int) := by omega
  have hHd : Blk W1 w8.heap.size 56 #[.string (a.extract 0 m), .int .i64 (min sa m), .string b, .int .i64 sb] ∧ Blk W1 w.heap.size 56 #[.string a, .int .i64 sa, .string b, .int .i64 sb] ∧ Below w.heap.size w W1 ∧ W1.cell? ⟨w8.heap.size, 0, none⟩ = some (.string (a.extract 0 m)) ∧ W1.cell? ⟨w8.heap.size, 1, none⟩ = some (.int .i64 (min sa m)) ∧ W1.cell? ⟨w8.heap.size, 2, none⟩ = some (.string b) ∧ W1.cell? ⟨w8.heap.size, 3, none⟩ = some (.int .i64 sb) ∧ W1.cell? ⟨w.heap.size, 0, none⟩ = some (.string a) ∧ W1.cell? ⟨w.heap.size, 1, none⟩ = some (.int .i64 sa) ∧ W1.cell? ⟨w.heap.size, 2, none⟩ = some (.string b) ∧ W1.cell? ⟨w.heap.size, 3, none⟩ = some (.int .i64 sb) := held_of kcX kdX hbX
  go_region_held3 (fun w' => Blk w' w8.heap.size 56 #[.string (a.extract 0 m), .int .i64 (min sa m), .string b, .int .i64 sb] ∧ Blk w' w.heap.size 56 #[.string a, .int .i64 sa, .string b, .int .i64 sb] ∧ Below w.heap.size w w' ∧ w'.cell? ⟨w8.heap.size, 0, none⟩ = some (.string (a.extract 0 m)) ∧ w'.cell? ⟨w8.heap.size, 1, none⟩ = some (.int .i64 (min sa m)) ∧ w'.cell? ⟨w8.heap.size, 2, none⟩ = some (.string b) ∧ w'.cell? ⟨w8.heap.size, 3, none⟩ = some (.int .i64 sb) ∧ w'.cell? ⟨w.heap.size, 0, none⟩ = some (.string a) ∧ w'.cell? ⟨w.heap.size, 1, none⟩ = some (.int .i64 sa) ∧ w'.cell? ⟨w.heap.size, 2, none⟩ = some (.string b) ∧ w'.cell? ⟨w.heap.size, 3, none⟩ = some (.int .i64 sb)) (first | with_reducible assumption | with_reducible exact held_drew (by assumption) | with_reducible exact held_alloc (by assumption) _ | with_reducible exact held_drew (held_alloc hHd _) | with_reducible exact held_set4 (by assumption) lcX ldX hbX.size) ((first | (go_at_call 25; ((with_reducible refine (Hc.out _).mono ?_)); rintro e w9 ⟨rfl, hb9⟩; ((with_reducible have nB : Blk w9 W1.heap.size 56 #[.string ⟨#[]⟩, .int .i64 0, .string ⟨#[]⟩, .int .i64 0] := Blk.below (w := (W1.alloc (.cells #[.string ⟨#[]⟩, .int .i64 0, .string ⟨#[]⟩, .int .i64 0] 56)).drew) (Blk.drew (Blk.new W1 56 #[.string ⟨#[]⟩, .int .i64 0, .string ⟨#[]⟩, .int .i64 0])) hb9 (by simp))); have n0 := nB.cell 0; have n1 := nB.cell 1; have n2 := nB.cell 2; have n3 := nB.cell 3; have m0 := nB.frozen 0; have m1 := nB.frozen 1; have m2 := nB.frozen 2; have m3 := nB.frozen 3; have gC : Blk w9 w8.heap.size 56 #[.string (a.extract 0 m), .int .i64 (min sa m), .string b, .int .i64 sb] ∧ Blk w9 w.heap.size 56 #[.string a, .int .i64 sa, .string b, .int .i64 sb] ∧ Below w.heap.size w w9 ∧ w9.cell? ⟨w8.heap.size, 0, none⟩ = some (.string (a.extract 0 m)) ∧ w9.cell? ⟨w8.heap.size, 1, none⟩ = some (.int .i64 (min sa m)) ∧ w9.cell? ⟨w8.heap.size, 2, none⟩ = some (.string b) ∧ w9.cell? ⟨w8.heap.size, 3, none⟩ = some (.int .i64 sb) ∧ w9.cell? ⟨w.heap.size, 0, none⟩ = some (.string a) ∧ w9.cell? ⟨w.heap.size, 1, none⟩ = some (.int .i64 sa) ∧ w9.cell? ⟨w.heap.size, 2, none⟩ = some (.string b) ∧ w9.cell? ⟨w.heap.size, 3, none⟩ = some (.int .i64 sb) := held_below (by assumption) hb9) | (go_at_call 25; ((with_reducible refine (Hc.out _).mono ?_)); rintro e w9 ⟨rfl, hb9⟩; have gC : Blk w9 w8.heap.size 56 #[.string (a.extract 0 m), .int .i64 (min sa m), .string b, .int .i64 sb] ∧ Blk w9 w.heap.size 56 #[.string a, .int .i64 sa, .string b, .int .i64 sb] ∧ Below w.heap.size w w9 ∧ w9.cell? ⟨w8.heap.size, 0, none⟩ = some (.string (a.extract 0 m)) ∧ w9.cell? ⟨w8.heap.size, 1, none⟩ = some (.int .i64 (min sa m)) ∧ w9.cell? ⟨w8.heap.size, 2, none⟩ = some (.string b) ∧ w9.cell? ⟨w8.heap.size, 3, none⟩ = some (.int .i64 sb) ∧ w9.cell? ⟨w.heap.size, 0, none⟩ = some (.string a) ∧ w9.cell? ⟨w.heap.size, 1, none⟩ = some (.int .i64 sa) ∧ w9.cell? ⟨w.heap.size, 2, none⟩ = some (.string b) ∧ w9.cell? ⟨w.heap.size, 3, none⟩ = some (.int .i64 sb) := held_below (by assumption) hb9)))
  all_goals go_wp2_with fail
  all_goals go_quiet (fail)
  all_goals go_wp2_with fail
  all_goals go_ret
  all_goals refine ⟨?_, ?_⟩
  all_goals first | exact below_drewN (Below.alloc gC.2.2.1 (Below.size gC.2.2.1) _) _ | exact below_drewN (((((Below.setCell gC.2.2.1 (p := ⟨W1.heap.size, 0, none⟩) hbX.size _).setCell (p := ⟨W1.heap.size, 1, none⟩) hbX.size _).setCell (p := ⟨W1.heap.size, 2, none⟩) hbX.size _).setCell (p := ⟨W1.heap.size, 3, none⟩) hbX.size _)) _ | (show Ending.returned (.bool (decide (min sa (m : Int) ≤ sa))) = _; rw [decide_eq_true (by omega)]) | rfl
theorem apart_100 (a b : ByteArray) (sa sb : Int) (s : ByteArray) (hs : s.size ≤ 140737488351232) (n : Int) (h : dlook (a, sa) (b, sb) 1 = 0) (ha : ¬ (1048576 < b.size + s.size)) (hn : n < 0 ∨ (b.size : Int) < n) (w : World) :
    Calls Try.prog 13 #[dvl (a, sa) (b, sb), .int .i64 1, .string s, .int .i64 n] w fun e w' => e = .returned (.bool true) ∧ Below w.heap.size w w' := by
  have hbw0 : Below w.heap.size w w := Below.refl _ _
  have hz := dlook_zero _ _ _ h
  simp only at hz
  obtain ⟨_, hsa, hsb, ha0, ha1, hb0, hb1'⟩ := hz
  have hav : Hid (dapp (a, sa) (b, sb) 1 s = ((a, sa), (b ++ s, sb), 0)) := by unfold dapp; rw [if_neg (by decide)]; rw [if_neg (by simp only; omega)]; exact Lib.hid rfl
  unfold dvl
  simp only
  go_enter Try.func13, Try.ntmps13
  have hbw1 := hbw0.alloc hbw0.size (.cells #[.string a, .int .i64 sa, .string b, .int .i64 sb] 56)
  have kd1 := Blk.new w 56 #[.string a, .int .i64 sa, .string b, .int .i64 sb]
  go_wp2_with fail
  refine (dtrim_good (⟨#[97, 98]⟩, 2) dzero 0 1 _ (by decide) (by decide)).mono ?_
  rintro e w2 ⟨rfl, hb2⟩
  have hbw2 := hbw1.trans (hb2.mono hbw1.size)
  have kd2 := kd1.below hb2 kd1.lt
  clear hb2
  rw [show dtrm (⟨#[97, 98]⟩, 2) dzero 0 ((1 : Nat) : Int) = ((⟨#[97]⟩, 1), dzero) from by decide]
  unfold dres dvl dzero
  simp only
  have cd2_0 := kd2.cell 0
  have cd2_1 := kd2.cell 1
  have cd2_2 := kd2.cell 2
  have cd2_3 := kd2.cell 3
  have ld2 := kd2.lt
  go_wp2_with fail
  clear cd2_0 cd2_1 cd2_2 cd2_3
  have hbw3 := hbw2.alloc hbw2.size (.cells #[.string ⟨#[97]⟩, .int .i64 1, .string ⟨#[]⟩, .int .i64 0] 56)
  have kd3 := kd2.alloc (.cells #[.string ⟨#[97]⟩, .int .i64 1, .string ⟨#[]⟩, .int .i64 0] 56)
  have kx3 := Blk.new w2 56 #[.string ⟨#[97]⟩, .int .i64 1, .string ⟨#[]⟩, .int .i64 0]
  refine (dappend_good (a, sa) (b, sb) 1 s (by omega) _ h).mono ?_
  rintro e w4 ⟨rfl, hb4⟩
  have hbw4 := hbw3.trans (hb4.mono hbw3.size)
  have kd4 := kd3.below hb4 kd3.lt
  have kx4 := kx3.below hb4 kx3.lt
  clear hb4
  rw [hav.out]
  unfold dres dvl
  simp only
  have cd4_0 := kd4.cell 0
  have cd4_1 := kd4.cell 1
  have cd4_2 := kd4.cell 2
  have cd4_3 := kd4.cell 3
  have ld4 := kd4.lt
  go_wp2_with fail
  clear cd4_0 cd4_1 cd4_2 cd4_3
  have hbw5 := hbw4.alloc hbw4.size (.cells #[.string a, .int .i64 sa, .string (b ++ s), .int .i64 sb] 56)
  have kd5 := kd4.alloc (.cells #[.string a, .int .i64 sa, .string (b ++ s), .int .i64 sb] 56)
  have kx5 := kx4.alloc (.cells #[.string a, .int .i64 sa, .string (b ++ s), .int .i64 sb] 56)
  have ka5 := Blk.new w4 56 #[.string a, .int .i64 sa, .string (b ++ s), .int .i64 sb]
  refine (dsync_good (a, sa) (b, sb) 1 _ h).mono ?_
  rintro e w6 ⟨rfl, hb6⟩
  have hbw6 := hbw5.trans (hb6.mono hbw5.size)
  have kd6 := kd5.below hb6 kd5.lt
  have kx6 := kx5.below hb6 kx5.lt
  have ka6 := ka5.below hb6 ka5.lt
  clear hb6
  rw [show dsyn (a, sa) (b, sb) 1 = ((a, sa), (b, (b.size : Int))) from rfl]
  unfold dres dvl
  simp only
  have cd6_0 := kd6.cell 0
  have cd6_1 := kd6.cell 1
  have cd6_2 := kd6.cell 2
  have cd6_3 := kd6.cell 3
  have ld6 := kd6.lt
  go_wp2_with fail
  clear cd6_0 cd6_1 cd6_2 cd6_3
  have hbw7 := hbw6.alloc hbw6.size (.cells #[.string a, .int .i64 sa, .string b, .int .i64 (b.size : Int)] 56)
  have kd7 := kd6.alloc (.cells #[.string a, .int .i64 sa, .string b, .int .i64 (b.size : Int)] 56)
  have kx7 := kx6.alloc (.cells #[.string a, .int .i64 sa, .string b, .int .i64 (b.size : Int)] 56)
  have ka7 := ka6.alloc (.cells #[.string a, .int .i64 sa, .string b, .int .i64 (b.size : Int)] 56)
  have kb7 := Blk.new w6 56 #[.string a, .int .i64 sa, .string b, .int .i64 (b.size : Int)]
  refine (dtrim_bad (a, sa) (b, sb) 1 n _ h (by simpa using hn)).mono ?_
  rintro e w8 ⟨rfl, hb8⟩
  have hbw8 := hbw7.trans (hb8.mono hbw7.size)
  have kd8 := kd7.below hb8 kd7.lt
  have kx8 := kx7.below hb8 kx7.lt
  have ka8 := ka7.below hb8 ka7.lt
  have kb8 := kb7.below hb8 kb7.lt
  clear hb8
  unfold dres dvl dzero
  simp only
  have cd8_0 := kd8.cell 0
  have cd8_1 := kd8.cell 1
  have cd8_2 := kd8.cell 2
  have cd8_3 := kd8.cell 3
  have ca8_0 := ka8.cell 0
  have ca8_1 := ka8.cell 1
  have ca8_2 := ka8.cell 2
  have ca8_3 := ka8.cell 3
  have cb8_0 := kb8.cell 0
  have cb8_1 := kb8.cell 1
  have cb8_2 := kb8.cell 2
  have cb8_3 := kb8.cell 3
  have ld8 := kd8.lt
  have la8 := ka8.lt
  have lb8 := kb8.lt
  go_wp2_with fail
  go_quiet (fail)
  go_wp2_with fail
  go_ret
  exact ⟨rfl, ((hbw8.alloc hbw8.size _).alloc (by have := hbw8.size; simp; omega) _).drewN_ _⟩
theorem apart_101 (a b : ByteArray) (sa sb : Int) (s : ByteArray) (hs : s.size ≤ 140737488351232)  (h : dlook (a, sa) (b, sb) 1 = 0) (ha : ¬ (1048576 < b.size + s.size)) (m : Nat) (hm : (m : Int) ≤ (b.size : Int)) (w : World) :
    Calls Try.prog 13 #[dvl (a, sa) (b, sb), .int .i64 1, .string s, .int .i64 m] w fun e w' => e = .returned (.bool true) ∧ Below w.heap.size w w' := by
  have hbw0 : Below w.heap.size w w := Below.refl _ _
  have hz := dlook_zero _ _ _ h
  simp only at hz
  obtain ⟨_, hsa, hsb, ha0, ha1, hb0, hb1'⟩ := hz
  have hav : Hid (dapp (a, sa) (b, sb) 1 s = ((a, sa), (b ++ s, sb), 0)) := by unfold dapp; rw [if_neg (by decide)]; rw [if_neg (by simp only; omega)]; exact Lib.hid rfl
  unfold dvl
  simp only
  go_enter Try.func13, Try.ntmps13
  have hbw1 := hbw0.alloc hbw0.size (.cells #[.string a, .int .i64 sa, .string b, .int .i64 sb] 56)
  have kd1 := Blk.new w 56 #[.string a, .int .i64 sa, .string b, .int .i64 sb]
  go_wp2_with fail
  refine (dtrim_good (⟨#[97, 98]⟩, 2) dzero 0 1 _ (by decide) (by decide)).mono ?_
  rintro e w2 ⟨rfl, hb2⟩
  have hbw2 := hbw1.trans (hb2.mono hbw1.size)
  have kd2 := kd1.below hb2 kd1.lt
  clear hb2
  rw [show dtrm (⟨#[97, 98]⟩, 2) dzero 0 ((1 : Nat) : Int) = ((⟨#[97]⟩, 1), dzero) from by decide]
  unfold dres dvl dzero
  simp only
  have cd2_0 := kd2.cell 0
  have cd2_1 := kd2.cell 1
  have cd2_2 := kd2.cell 2
  have cd2_3 := kd2.cell 3
  have ld2 := kd2.lt
  go_wp2_with fail
  clear cd2_0 cd2_1 cd2_2 cd2_3
  have hbw3 := hbw2.alloc hbw2.size (.cells #[.string ⟨#[97]⟩, .int .i64 1, .string ⟨#[]⟩, .int .i64 0] 56)
  have kd3 := kd2.alloc (.cells #[.string ⟨#[97]⟩, .int .i64 1, .string ⟨#[]⟩, .int .i64 0] 56)
  have kx3 := Blk.new w2 56 #[.string ⟨#[97]⟩, .int .i64 1, .string ⟨#[]⟩, .int .i64 0]
  refine (dappend_good (a, sa) (b, sb) 1 s (by omega) _ h).mono ?_
  rintro e w4 ⟨rfl, hb4⟩
  have hbw4 := hbw3.trans (hb4.mono hbw3.size)
  have kd4 := kd3.below hb4 kd3.lt
  have kx4 := kx3.below hb4 kx3.lt
  clear hb4
  rw [hav.out]
  unfold dres dvl
  simp only
  have cd4_0 := kd4.cell 0
  have cd4_1 := kd4.cell 1
  have cd4_2 := kd4.cell 2
  have cd4_3 := kd4.cell 3
  have ld4 := kd4.lt
  go_wp2_with fail
  clear cd4_0 cd4_1 cd4_2 cd4_3
  have hbw5 := hbw4.alloc hbw4.size (.cells #[.string a, .int .i64 sa, .string (b ++ s), .int .i64 sb] 56)
  have kd5 := kd4.alloc (.cells #[.string a, .int .i64 sa, .string (b ++ s), .int .i64 sb] 56)
  have kx5 := kx4.alloc (.cells #[.string a, .int .i64 sa, .string (b ++ s), .int .i64 sb] 56)
  have ka5 := Blk.new w4 56 #[.string a, .int .i64 sa, .string (b ++ s), .int .i64 sb]
  refine (dsync_good (a, sa) (b, sb) 1 _ h).mono ?_
  rintro e w6 ⟨rfl, hb6⟩
  have hbw6 := hbw5.trans (hb6.mono hbw5.size)
  have kd6 := kd5.below hb6 kd5.lt
  have kx6 := kx5.below hb6 kx5.lt
  have ka6 := ka5.below hb6 ka5.lt
  clear hb6
  rw [show dsyn (a, sa) (b, sb) 1 = ((a, sa), (b, (b.size : Int))) from rfl]
  unfold dres dvl
  simp only
  have cd6_0 := kd6.cell 0
  have cd6_1 := kd6.cell 1
  have cd6_2 := kd6.cell 2
  have cd6_3 := kd6.cell 3
  have ld6 := kd6.lt
  go_wp2_with fail
  clear cd6_0 cd6_1 cd6_2 cd6_3
  have hbw7 := hbw6.alloc hbw6.size (.cells #[.string a, .int .i64 sa, .string b, .int .i64 (b.size : Int)] 56)
  have kd7 := kd6.alloc (.cells #[.string a, .int .i64 sa, .string b, .int .i64 (b.size : Int)] 56)
  have kx7 := kx6.alloc (.cells #[.string a, .int .i64 sa, .string b, .int .i64 (b.size : Int)] 56)
  have ka7 := ka6.alloc (.cells #[.string a, .int .i64 sa, .string b, .int .i64 (b.size : Int)] 56)
  have kb7 := Blk.new w6 56 #[.string a, .int .i64 sa, .string b, .int .i64 (b.size : Int)]
  refine (dtrim_good (a, sa) (b, sb) 1 m _ h (by simpa using hm)).mono ?_
  rintro e w8 ⟨rfl, hb8⟩
  have hbw8 := hbw7.trans (hb8.mono hbw7.size)
  have kd8 := kd7.below hb8 kd7.lt
  have kx8 := kx7.below hb8 kx7.lt
  have ka8 := ka7.below hb8 ka7.lt
  have kb8 := kb7.below hb8 kb7.lt
  clear hb8
  rw [show dtrm (a, sa) (b, sb) 1 (m : Int) = ((a, sa), (b.extract 0 m, min sb m)) from rfl]
  unfold dres dvl
  simp only
  have cd8_0 := kd8.cell 0
  have cd8_1 := kd8.cell 1
  have cd8_2 := kd8.cell 2
  have cd8_3 := kd8.cell 3
  have ca8_0 := ka8.cell 0
  have ca8_1 := ka8.cell 1
  have ca8_2 := ka8.cell 2
  have ca8_3 := ka8.cell 3
  have cb8_0 := kb8.cell 0
  have cb8_1 := kb8.cell 1
  have cb8_2 := kb8.cell 2
  have cb8_3 := kb8.cell 3
  have ld8 := kd8.lt
  have la8 := ka8.lt
  have lb8 := kb8.lt
  go_wp2_with fail
  go_quiet (fail)
  go_wp2_with fail
  clear cd8_0 cd8_1 cd8_2 cd8_3 ca8_0 ca8_1 ca8_2 ca8_3 cb8_0 cb8_1 cb8_2 cb8_3
  have hbw9 := hbw8.alloc hbw8.size (.cells #[.string a, .int .i64 sa, .string (b.extract 0 m), .int .i64 (min sb m)] 56)
  have kd9 := kd8.alloc (.cells #[.string a, .int .i64 sa, .string (b.extract 0 m), .int .i64 (min sb m)] 56)
  have kx9 := kx8.alloc (.cells #[.string a, .int .i64 sa, .string (b.extract 0 m), .int .i64 (min sb m)] 56)
  have ka9 := ka8.alloc (.cells #[.string a, .int .i64 sa, .string (b.extract 0 m), .int .i64 (min sb m)] 56)
  have kb9 := kb8.alloc (.cells #[.string a, .int .i64 sa, .string (b.extract 0 m), .int .i64 (min sb m)] 56)
  have kc9 := Blk.new w8 56 #[.string a, .int .i64 sa, .string (b.extract 0 m), .int .i64 (min sb m)]
  have hbw10 := hbw9.alloc hbw9.size (.cells #[.string a, .int .i64 sa] 53)
  have kd10 := kd9.alloc (.cells #[.string a, .int .i64 sa] 53)
  have kx10 := kx9.alloc (.cells #[.string a, .int .i64 sa] 53)
  have ka10 := ka9.alloc (.cells #[.string a, .int .i64 sa] 53)
  have kb10 := kb9.alloc (.cells #[.string a, .int .i64 sa] 53)
  have kc10 := kc9.alloc (.cells #[.string a, .int .i64 sa] 53)
  have ko10 := Blk.new (w8.alloc (.cells #[.string a, .int .i64 sa, .string (b.extract 0 m), .int .i64 (min sb m)] 56)) 53 #[.string a, .int .i64 sa]
  have hbX := below_drewN hbw10 nq
  have kdX := kd10.drewN nq
  have kcX := kc10.drewN nq
  generalize hW : (((w8.alloc (.cells #[.string a, .int .i64 sa, .string (b.extract 0 m), .int .i64 (min sb m)] 56)).alloc (.cells #[.string a, .int .i64 sa] 53)).drewN nq) = W1 at *
  clear hW
  have cdX_0 := kdX.cell 0
  have cdX_1 := kdX.cell 1
  have cdX_2 := kdX.cell 2
  have cdX_3 := kdX.cell 3
  have ccX_0 := kcX.cell 0
  have ccX_1 := kcX.cell 1
  have ccX_2 := kcX.cell 2
  have ccX_3 := kcX.cell 3
  have ldX := kdX.lt
  have lcX := kcX.lt
  have hEx : Hid (b.extract 0 m ++ b.extract m b.size = b) := Lib.hid (cut_app _ _)
  have hszx : (b.extract 0 m).size = m := by rw [← bs_len, bs_extract, List.length_drop, List.length_take, bs_len]; omega
  have hszy : (b.extract m b.size).size = b.size - m := by rw [← bs_len, bs_extract, List.length_drop, List.length_take, bs_len]; omega
  have hlk : dlook (a, sa) (b.extract 0 m, min sb m) 1 = 0 := dlook_of_good _ _ _ (by right; rfl) (by simp only; omega) (by simp only; omega) (by simp only; omega) (by simp only; omega) (by simp only; omega) (by simp only; omega)
  have hdv : dapp (a, sa) (b.extract 0 m, min sb m) 1 (b.extract m b.size) = ((a, sa), (b, min sb m), 0) := by unfold dapp; rw [if_neg (by decide)]; rw [if_neg (by simp only; omega)]; simp only; rw [hEx.out]
  have hc := fun w0 => dappend_good (a, sa) (b.extract 0 m, min sb m) 1 (b.extract m b.size) (by omega) w0 hlk
  rw [hdv] at hc
  unfold dvl dres dvl at hc
  simp only at hc
  have Hc := Lib.hid hc
  clear hc hdv hlk hszx hszy
  have hm0 : (0 : Int) ≤ (m : Int) := by omega
  have hHd : Blk W1 w8.heap.size 56 #[.string a, .int .i64 sa, .string (b.extract 0 m), .int .i64 (min sb m)] ∧ Blk W1 w.heap.size 56 #[.string a, .int .i64 sa, .string b, .int .i64 sb] ∧ Below w.heap.size w W1 ∧ W1.cell? ⟨w8.heap.size, 0, none⟩ = some (.string a) ∧ W1.cell? ⟨w8.heap.size, 1, none⟩ = some (.int .i64 sa) ∧ W1.cell? ⟨w8.heap.size, 2, none⟩ = some (.string (b.extract 0 m)) ∧ W1.cell? ⟨w8.heap.size, 3, none⟩ = some (.int .i64 (min sb m)) ∧ W1.cell? ⟨w.heap.size, 0, none⟩ = some (.string a) ∧ W1.cell? ⟨w.heap.size, 1, none⟩ = some (.int .i64 sa) ∧ W1.cell? ⟨w.heap.size, 2, none⟩ = some (.string b) ∧ W1.cell? ⟨w.heap.size, 3, none⟩ = some (.int .i64 sb) := held_of kcX kdX hbX
  go_region_held3 (fun w' => Blk w' w8.heap.size 56 #[.string a, .int .i64 sa, .string (b.extract 0 m), .int .i64 (min sb m)] ∧ Blk w' w.heap.size 56 #[.string a, .int .i64 sa, .string b, .int .i64 sb] ∧ Below w.heap.size w w' ∧ w'.cell? ⟨w8.heap.size, 0, none⟩ = some (.string a) ∧ w'.cell? ⟨w8.heap.size, 1, none⟩ = some (.int .i64 sa) ∧ w'.cell? ⟨w8.heap.size, 2, none⟩ = some (.string (b.extract 0 m)) ∧ w'.cell? ⟨w8.heap.size, 3, none⟩ = some (.int .i64 (min sb m)) ∧ w'.cell? ⟨w.heap.size, 0, none⟩ = some (.string a) ∧ w'.cell? ⟨w.heap.size, 1, none⟩ = some (.int .i64 sa) ∧ w'.cell? ⟨w.heap.size, 2, none⟩ = some (.string b) ∧ w'.cell? ⟨w.heap.size, 3, none⟩ = some (.int .i64 sb)) (first | with_reducible assumption | with_reducible exact held_drew (by assumption) | with_reducible exact held_alloc (by assumption) _ | with_reducible exact held_drew (held_alloc hHd _) | with_reducible exact held_set4 (by assumption) lcX ldX hbX.size) ((first | (go_at_call 25; ((with_reducible refine (Hc.out _).mono ?_)); rintro e w9 ⟨rfl, hb9⟩; ((with_reducible have nB : Blk w9 W1.heap.size 56 #[.string ⟨#[]⟩, .int .i64 0, .string ⟨#[]⟩, .int .i64 0] := Blk.below (w := (W1.alloc (.cells #[.string ⟨#[]⟩, .int .i64 0, .string ⟨#[]⟩, .int .i64 0] 56)).drew) (Blk.drew (Blk.new W1 56 #[.string ⟨#[]⟩, .int .i64 0, .string ⟨#[]⟩, .int .i64 0])) hb9 (by simp))); have n0 := nB.cell 0; have n1 := nB.cell 1; have n2 := nB.cell 2; have n3 := nB.cell 3; have m0 := nB.frozen 0; have m1 := nB.frozen 1; have m2 := nB.frozen 2; have m3 := nB.frozen 3; have gC : Blk w9 w8.heap.size 56 #[.string a, .int .i64 sa, .string (b.extract 0 m), .int .i64 (min sb m)] ∧ Blk w9 w.heap.size 56 #[.string a, .int .i64 sa, .string b, .int .i64 sb] ∧ Below w.heap.size w w9 ∧ w9.cell? ⟨w8.heap.size, 0, none⟩ = some (.string a) ∧ w9.cell? ⟨w8.heap.size, 1, none⟩ = some (.int .i64 sa) ∧ w9.cell? ⟨w8.heap.size, 2, none⟩ = some (.string (b.extract 0 m)) ∧ w9.cell? ⟨w8.heap.size, 3, none⟩ = some (.int .i64 (min sb m)) ∧ w9.cell? ⟨w.heap.size, 0, none⟩ = some (.string a) ∧ w9.cell? ⟨w.heap.size, 1, none⟩ = some (.int .i64 sa) ∧ w9.cell? ⟨w.heap.size, 2, none⟩ = some (.string b) ∧ w9.cell? ⟨w.heap.size, 3, none⟩ = some (.int .i64 sb) := held_below (by assumption) hb9) | (go_at_call 25; ((with_reducible refine (Hc.out _).mono ?_)); rintro e w9 ⟨rfl, hb9⟩; have gC : Blk w9 w8.heap.size 56 #[.string a, .int .i64 sa, .string (b.extract 0 m), .int .i64 (min sb m)] ∧ Blk w9 w.heap.size 56 #[.string a, .int .i64 sa, .string b, .int .i64 sb] ∧ Below w.heap.size w w9 ∧ w9.cell? ⟨w8.heap.size, 0, none⟩ = some (.string a) ∧ w9.cell? ⟨w8.heap.size, 1, none⟩ = some (.int .i64 sa) ∧ w9.cell? ⟨w8.heap.size, 2, none⟩ = some (.string (b.extract 0 m)) ∧ w9.cell? ⟨w8.heap.size, 3, none⟩ = some (.int .i64 (min sb m)) ∧ w9.cell? ⟨w.heap.size, 0, none⟩ = some (.string a) ∧ w9.cell? ⟨w.heap.size, 1, none⟩ = some (.int .i64 sa) ∧ w9.cell? ⟨w.heap.size, 2, none⟩ = some (.string b) ∧ w9.cell? ⟨w.heap.size, 3, none⟩ = some (.int .i64 sb) := held_below (by assumption) hb9)))
  all_goals go_wp2_with fail
  all_goals go_quiet (fail)
  all_goals go_wp2_with fail
  all_goals go_ret
  all_goals refine ⟨?_, ?_⟩
  all_goals first | exact below_drewN (Below.alloc gC.2.2.1 (Below.size gC.2.2.1) _) _ | exact below_drewN (((((Below.setCell gC.2.2.1 (p := ⟨W1.heap.size, 0, none⟩) hbX.size _).setCell (p := ⟨W1.heap.size, 1, none⟩) hbX.size _).setCell (p := ⟨W1.heap.size, 2, none⟩) hbX.size _).setCell (p := ⟨W1.heap.size, 3, none⟩) hbX.size _)) _ | (show Ending.returned (.bool (decide (min sb (m : Int) ≤ sb))) = _; rw [decide_eq_true (by omega)]) | rfl
theorem apart_110 (a b : ByteArray) (sa sb : Int) (s : ByteArray) (hs : s.size ≤ 140737488351232) (n : Int) (h : dlook (a, sa) (b, sb) 1 = 0) (ha : (1048576 < b.size + s.size)) (hn : n < 0 ∨ (b.size : Int) < n) (w : World) :
    Calls Try.prog 13 #[dvl (a, sa) (b, sb), .int .i64 1, .string s, .int .i64 n] w fun e w' => e = .returned (.bool true) ∧ Below w.heap.size w w' := by
  have hbw0 : Below w.heap.size w w := Below.refl _ _
  have hz := dlook_zero _ _ _ h
  simp only at hz
  obtain ⟨_, hsa, hsb, ha0, ha1, hb0, hb1'⟩ := hz
  have hav : Hid (dapp (a, sa) (b, sb) 1 s = (dzero, dzero, 2)) := by unfold dapp; rw [if_neg (by decide)]; rw [if_pos (by simp only; omega)]; exact Lib.hid rfl
  unfold dvl
  simp only
  go_enter Try.func13, Try.ntmps13
  have hbw1 := hbw0.alloc hbw0.size (.cells #[.string a, .int .i64 sa, .string b, .int .i64 sb] 56)
  have kd1 := Blk.new w 56 #[.string a, .int .i64 sa, .string b, .int .i64 sb]
  go_wp2_with fail
  refine (dtrim_good (⟨#[97, 98]⟩, 2) dzero 0 1 _ (by decide) (by decide)).mono ?_
  rintro e w2 ⟨rfl, hb2⟩
  have hbw2 := hbw1.trans (hb2.mono hbw1.size)
  have kd2 := kd1.below hb2 kd1.lt
  clear hb2
  rw [show dtrm (⟨#[97, 98]⟩, 2) dzero 0 ((1 : Nat) : Int) = ((⟨#[97]⟩, 1), dzero) from by decide]
  unfold dres dvl dzero
  simp only
  have cd2_0 := kd2.cell 0
  have cd2_1 := kd2.cell 1
  have cd2_2 := kd2.cell 2
  have cd2_3 := kd2.cell 3
  have ld2 := kd2.lt
  go_wp2_with fail
  clear cd2_0 cd2_1 cd2_2 cd2_3
  have hbw3 := hbw2.alloc hbw2.size (.cells #[.string ⟨#[97]⟩, .int .i64 1, .string ⟨#[]⟩, .int .i64 0] 56)
  have kd3 := kd2.alloc (.cells #[.string ⟨#[97]⟩, .int .i64 1, .string ⟨#[]⟩, .int .i64 0] 56)
  have kx3 := Blk.new w2 56 #[.string ⟨#[97]⟩, .int .i64 1, .string ⟨#[]⟩, .int .i64 0]
  refine (dappend_good (a, sa) (b, sb) 1 s (by omega) _ h).mono ?_
  rintro e w4 ⟨rfl, hb4⟩
  have hbw4 := hbw3.trans (hb4.mono hbw3.size)
  have kd4 := kd3.below hb4 kd3.lt
  have kx4 := kx3.below hb4 kx3.lt
  clear hb4
  rw [hav.out]
  unfold dres dvl dzero
  simp only
  have cd4_0 := kd4.cell 0
  have cd4_1 := kd4.cell 1
  have cd4_2 := kd4.cell 2
  have cd4_3 := kd4.cell 3
  have ld4 := kd4.lt
  go_wp2_with fail
  clear cd4_0 cd4_1 cd4_2 cd4_3
  have hbw5 := hbw4.alloc hbw4.size (.cells #[.string ⟨#[]⟩, .int .i64 0, .string ⟨#[]⟩, .int .i64 0] 56)
  have kd5 := kd4.alloc (.cells #[.string ⟨#[]⟩, .int .i64 0, .string ⟨#[]⟩, .int .i64 0] 56)
  have kx5 := kx4.alloc (.cells #[.string ⟨#[]⟩, .int .i64 0, .string ⟨#[]⟩, .int .i64 0] 56)
  have ka5 := Blk.new w4 56 #[.string ⟨#[]⟩, .int .i64 0, .string ⟨#[]⟩, .int .i64 0]
  refine (dsync_good (a, sa) (b, sb) 1 _ h).mono ?_
  rintro e w6 ⟨rfl, hb6⟩
  have hbw6 := hbw5.trans (hb6.mono hbw5.size)
  have kd6 := kd5.below hb6 kd5.lt
  have kx6 := kx5.below hb6 kx5.lt
  have ka6 := ka5.below hb6 ka5.lt
  clear hb6
  rw [show dsyn (a, sa) (b, sb) 1 = ((a, sa), (b, (b.size : Int))) from rfl]
  unfold dres dvl
  simp only
  have cd6_0 := kd6.cell 0
  have cd6_1 := kd6.cell 1
  have cd6_2 := kd6.cell 2
  have cd6_3 := kd6.cell 3
  have ld6 := kd6.lt
  go_wp2_with fail
  clear cd6_0 cd6_1 cd6_2 cd6_3
  have hbw7 := hbw6.alloc hbw6.size (.cells #[.string a, .int .i64 sa, .string b, .int .i64 (b.size : Int)] 56)
  have kd7 := kd6.alloc (.cells #[.string a, .int .i64 sa, .string b, .int .i64 (b.size : Int)] 56)
  have kx7 := kx6.alloc (.cells #[.string a, .int .i64 sa, .string b, .int .i64 (b.size : Int)] 56)
  have ka7 := ka6.alloc (.cells #[.string a, .int .i64 sa, .string b, .int .i64 (b.size : Int)] 56)
  have kb7 := Blk.new w6 56 #[.string a, .int .i64 sa, .string b, .int .i64 (b.size : Int)]
  refine (dtrim_bad (a, sa) (b, sb) 1 n _ h (by simpa using hn)).mono ?_
  rintro e w8 ⟨rfl, hb8⟩
  have hbw8 := hbw7.trans (hb8.mono hbw7.size)
  have kd8 := kd7.below hb8 kd7.lt
  have kx8 := kx7.below hb8 kx7.lt
  have ka8 := ka7.below hb8 ka7.lt
  have kb8 := kb7.below hb8 kb7.lt
  clear hb8
  unfold dres dvl dzero
  simp only
  have cd8_0 := kd8.cell 0
  have cd8_1 := kd8.cell 1
  have cd8_2 := kd8.cell 2
  have cd8_3 := kd8.cell 3
  have ca8_0 := ka8.cell 0
  have ca8_1 := ka8.cell 1
  have ca8_2 := ka8.cell 2
  have ca8_3 := ka8.cell 3
  have cb8_0 := kb8.cell 0
  have cb8_1 := kb8.cell 1
  have cb8_2 := kb8.cell 2
  have cb8_3 := kb8.cell 3
  have ld8 := kd8.lt
  have la8 := ka8.lt
  have lb8 := kb8.lt
  go_wp2_with fail
  go_quiet (fail)
  go_wp2_with fail
  go_ret
  exact ⟨rfl, ((hbw8.alloc hbw8.size _).alloc (by have := hbw8.size; simp; omega) _).drewN_ _⟩
theorem apart_111 (a b : ByteArray) (sa sb : Int) (s : ByteArray) (hs : s.size ≤ 140737488351232)  (h : dlook (a, sa) (b, sb) 1 = 0) (ha : (1048576 < b.size + s.size)) (m : Nat) (hm : (m : Int) ≤ (b.size : Int)) (w : World) :
    Calls Try.prog 13 #[dvl (a, sa) (b, sb), .int .i64 1, .string s, .int .i64 m] w fun e w' => e = .returned (.bool true) ∧ Below w.heap.size w w' := by
  have hbw0 : Below w.heap.size w w := Below.refl _ _
  have hz := dlook_zero _ _ _ h
  simp only at hz
  obtain ⟨_, hsa, hsb, ha0, ha1, hb0, hb1'⟩ := hz
  have hav : Hid (dapp (a, sa) (b, sb) 1 s = (dzero, dzero, 2)) := by unfold dapp; rw [if_neg (by decide)]; rw [if_pos (by simp only; omega)]; exact Lib.hid rfl
  unfold dvl
  simp only
  go_enter Try.func13, Try.ntmps13
  have hbw1 := hbw0.alloc hbw0.size (.cells #[.string a, .int .i64 sa, .string b, .int .i64 sb] 56)
  have kd1 := Blk.new w 56 #[.string a, .int .i64 sa, .string b, .int .i64 sb]
  go_wp2_with fail
  refine (dtrim_good (⟨#[97, 98]⟩, 2) dzero 0 1 _ (by decide) (by decide)).mono ?_
  rintro e w2 ⟨rfl, hb2⟩
  have hbw2 := hbw1.trans (hb2.mono hbw1.size)
  have kd2 := kd1.below hb2 kd1.lt
  clear hb2
  rw [show dtrm (⟨#[97, 98]⟩, 2) dzero 0 ((1 : Nat) : Int) = ((⟨#[97]⟩, 1), dzero) from by decide]
  unfold dres dvl dzero
  simp only
  have cd2_0 := kd2.cell 0
  have cd2_1 := kd2.cell 1
  have cd2_2 := kd2.cell 2
  have cd2_3 := kd2.cell 3
  have ld2 := kd2.lt
  go_wp2_with fail
  clear cd2_0 cd2_1 cd2_2 cd2_3
  have hbw3 := hbw2.alloc hbw2.size (.cells #[.string ⟨#[97]⟩, .int .i64 1, .string ⟨#[]⟩, .int .i64 0] 56)
  have kd3 := kd2.alloc (.cells #[.string ⟨#[97]⟩, .int .i64 1, .string ⟨#[]⟩, .int .i64 0] 56)
  have kx3 := Blk.new w2 56 #[.string ⟨#[97]⟩, .int .i64 1, .string ⟨#[]⟩, .int .i64 0]
  refine (dappend_good (a, sa) (b, sb) 1 s (by omega) _ h).mono ?_
  rintro e w4 ⟨rfl, hb4⟩
  have hbw4 := hbw3.trans (hb4.mono hbw3.size)
  have kd4 := kd3.below hb4 kd3.lt
  have kx4 := kx3.below hb4 kx3.lt
  clear hb4
  rw [hav.out]
  unfold dres dvl dzero
  simp only
  have cd4_0 := kd4.cell 0
  have cd4_1 := kd4.cell 1
  have cd4_2 := kd4.cell 2
  have cd4_3 := kd4.cell 3
  have ld4 := kd4.lt
  go_wp2_with fail
  clear cd4_0 cd4_1 cd4_2 cd4_3
  have hbw5 := hbw4.alloc hbw4.size (.cells #[.string ⟨#[]⟩, .int .i64 0, .string ⟨#[]⟩, .int .i64 0] 56)
  have kd5 := kd4.alloc (.cells #[.string ⟨#[]⟩, .int .i64 0, .string ⟨#[]⟩, .int .i64 0] 56)
  have kx5 := kx4.alloc (.cells #[.string ⟨#[]⟩, .int .i64 0, .string ⟨#[]⟩, .int .i64 0] 56)
  have ka5 := Blk.new w4 56 #[.string ⟨#[]⟩, .int .i64 0, .string ⟨#[]⟩, .int .i64 0]
  refine (dsync_good (a, sa) (b, sb) 1 _ h).mono ?_
  rintro e w6 ⟨rfl, hb6⟩
  have hbw6 := hbw5.trans (hb6.mono hbw5.size)
  have kd6 := kd5.below hb6 kd5.lt
  have kx6 := kx5.below hb6 kx5.lt
  have ka6 := ka5.below hb6 ka5.lt
  clear hb6
  rw [show dsyn (a, sa) (b, sb) 1 = ((a, sa), (b, (b.size : Int))) from rfl]
  unfold dres dvl
  simp only
  have cd6_0 := kd6.cell 0
  have cd6_1 := kd6.cell 1
  have cd6_2 := kd6.cell 2
  have cd6_3 := kd6.cell 3
  have ld6 := kd6.lt
  go_wp2_with fail
  clear cd6_0 cd6_1 cd6_2 cd6_3
  have hbw7 := hbw6.alloc hbw6.size (.cells #[.string a, .int .i64 sa, .string b, .int .i64 (b.size : Int)] 56)
  have kd7 := kd6.alloc (.cells #[.string a, .int .i64 sa, .string b, .int .i64 (b.size : Int)] 56)
  have kx7 := kx6.alloc (.cells #[.string a, .int .i64 sa, .string b, .int .i64 (b.size : Int)] 56)
  have ka7 := ka6.alloc (.cells #[.string a, .int .i64 sa, .string b, .int .i64 (b.size : Int)] 56)
  have kb7 := Blk.new w6 56 #[.string a, .int .i64 sa, .string b, .int .i64 (b.size : Int)]
  refine (dtrim_good (a, sa) (b, sb) 1 m _ h (by simpa using hm)).mono ?_
  rintro e w8 ⟨rfl, hb8⟩
  have hbw8 := hbw7.trans (hb8.mono hbw7.size)
  have kd8 := kd7.below hb8 kd7.lt
  have kx8 := kx7.below hb8 kx7.lt
  have ka8 := ka7.below hb8 ka7.lt
  have kb8 := kb7.below hb8 kb7.lt
  clear hb8
  rw [show dtrm (a, sa) (b, sb) 1 (m : Int) = ((a, sa), (b.extract 0 m, min sb m)) from rfl]
  unfold dres dvl
  simp only
  have cd8_0 := kd8.cell 0
  have cd8_1 := kd8.cell 1
  have cd8_2 := kd8.cell 2
  have cd8_3 := kd8.cell 3
  have ca8_0 := ka8.cell 0
  have ca8_1 := ka8.cell 1
  have ca8_2 := ka8.cell 2
  have ca8_3 := ka8.cell 3
  have cb8_0 := kb8.cell 0
  have cb8_1 := kb8.cell 1
  have cb8_2 := kb8.cell 2
  have cb8_3 := kb8.cell 3
  have ld8 := kd8.lt
  have la8 := ka8.lt
  have lb8 := kb8.lt
  go_wp2_with fail
  go_quiet (fail)
  go_wp2_with fail
  clear cd8_0 cd8_1 cd8_2 cd8_3 ca8_0 ca8_1 ca8_2 ca8_3 cb8_0 cb8_1 cb8_2 cb8_3
  have hbw9 := hbw8.alloc hbw8.size (.cells #[.string a, .int .i64 sa, .string (b.extract 0 m), .int .i64 (min sb m)] 56)
  have kd9 := kd8.alloc (.cells #[.string a, .int .i64 sa, .string (b.extract 0 m), .int .i64 (min sb m)] 56)
  have kx9 := kx8.alloc (.cells #[.string a, .int .i64 sa, .string (b.extract 0 m), .int .i64 (min sb m)] 56)
  have ka9 := ka8.alloc (.cells #[.string a, .int .i64 sa, .string (b.extract 0 m), .int .i64 (min sb m)] 56)
  have kb9 := kb8.alloc (.cells #[.string a, .int .i64 sa, .string (b.extract 0 m), .int .i64 (min sb m)] 56)
  have kc9 := Blk.new w8 56 #[.string a, .int .i64 sa, .string (b.extract 0 m), .int .i64 (min sb m)]
  have hbw10 := hbw9.alloc hbw9.size (.cells #[.string a, .int .i64 sa] 53)
  have kd10 := kd9.alloc (.cells #[.string a, .int .i64 sa] 53)
  have kx10 := kx9.alloc (.cells #[.string a, .int .i64 sa] 53)
  have ka10 := ka9.alloc (.cells #[.string a, .int .i64 sa] 53)
  have kb10 := kb9.alloc (.cells #[.string a, .int .i64 sa] 53)
  have kc10 := kc9.alloc (.cells #[.string a, .int .i64 sa] 53)
  have ko10 := Blk.new (w8.alloc (.cells #[.string a, .int .i64 sa, .string (b.extract 0 m), .int .i64 (min sb m)] 56)) 53 #[.string a, .int .i64 sa]
  have hbX := below_drewN hbw10 nq
  have kdX := kd10.drewN nq
  have kcX := kc10.drewN nq
  generalize hW : (((w8.alloc (.cells #[.string a, .int .i64 sa, .string (b.extract 0 m), .int .i64 (min sb m)] 56)).alloc (.cells #[.string a, .int .i64 sa] 53)).drewN nq) = W1 at *
  clear hW
  have cdX_0 := kdX.cell 0
  have cdX_1 := kdX.cell 1
  have cdX_2 := kdX.cell 2
  have cdX_3 := kdX.cell 3
  have ccX_0 := kcX.cell 0
  have ccX_1 := kcX.cell 1
  have ccX_2 := kcX.cell 2
  have ccX_3 := kcX.cell 3
  have ldX := kdX.lt
  have lcX := kcX.lt
  have hEx : Hid (b.extract 0 m ++ b.extract m b.size = b) := Lib.hid (cut_app _ _)
  have hszx : (b.extract 0 m).size = m := by rw [← bs_len, bs_extract, List.length_drop, List.length_take, bs_len]; omega
  have hszy : (b.extract m b.size).size = b.size - m := by rw [← bs_len, bs_extract, List.length_drop, List.length_take, bs_len]; omega
  have hlk : dlook (a, sa) (b.extract 0 m, min sb m) 1 = 0 := dlook_of_good _ _ _ (by right; rfl) (by simp only; omega) (by simp only; omega) (by simp only; omega) (by simp only; omega) (by simp only; omega) (by simp only; omega)
  have hdv : dapp (a, sa) (b.extract 0 m, min sb m) 1 (b.extract m b.size) = ((a, sa), (b, min sb m), 0) := by unfold dapp; rw [if_neg (by decide)]; rw [if_neg (by simp only; omega)]; simp only; rw [hEx.out]
  have hc := fun w0 => dappend_good (a, sa) (b.extract 0 m, min sb m) 1 (b.extract m b.size) (by omega) w0 hlk
  rw [hdv] at hc
  unfold dvl dres dvl at hc
  simp only at hc
  have Hc := Lib.hid hc
  clear hc hdv hlk hszx hszy
  have hm0 : (0 : Int) ≤ (m : Int) := by omega
  have hHd : Blk W1 w8.heap.size 56 #[.string a, .int .i64 sa, .string (b.extract 0 m), .int .i64 (min sb m)] ∧ Blk W1 w.heap.size 56 #[.string a, .int .i64 sa, .string b, .int .i64 sb] ∧ Below w.heap.size w W1 ∧ W1.cell? ⟨w8.heap.size, 0, none⟩ = some (.string a) ∧ W1.cell? ⟨w8.heap.size, 1, none⟩ = some (.int .i64 sa) ∧ W1.cell? ⟨w8.heap.size, 2, none⟩ = some (.string (b.extract 0 m)) ∧ W1.cell? ⟨w8.heap.size, 3, none⟩ = some (.int .i64 (min sb m)) ∧ W1.cell? ⟨w.heap.size, 0, none⟩ = some (.string a) ∧ W1.cell? ⟨w.heap.size, 1, none⟩ = some (.int .i64 sa) ∧ W1.cell? ⟨w.heap.size, 2, none⟩ = some (.string b) ∧ W1.cell? ⟨w.heap.size, 3, none⟩ = some (.int .i64 sb) := held_of kcX kdX hbX
  go_region_held3 (fun w' => Blk w' w8.heap.size 56 #[.string a, .int .i64 sa, .string (b.extract 0 m), .int .i64 (min sb m)] ∧ Blk w' w.heap.size 56 #[.string a, .int .i64 sa, .string b, .int .i64 sb] ∧ Below w.heap.size w w' ∧ w'.cell? ⟨w8.heap.size, 0, none⟩ = some (.string a) ∧ w'.cell? ⟨w8.heap.size, 1, none⟩ = some (.int .i64 sa) ∧ w'.cell? ⟨w8.heap.size, 2, none⟩ = some (.string (b.extract 0 m)) ∧ w'.cell? ⟨w8.heap.size, 3, none⟩ = some (.int .i64 (min sb m)) ∧ w'.cell? ⟨w.heap.size, 0, none⟩ = some (.string a) ∧ w'.cell? ⟨w.heap.size, 1, none⟩ = some (.int .i64 sa) ∧ w'.cell? ⟨w.heap.size, 2, none⟩ = some (.string b) ∧ w'.cell? ⟨w.heap.size, 3, none⟩ = some (.int .i64 sb)) (first | with_reducible assumption | with_reducible exact held_drew (by assumption) | with_reducible exact held_alloc (by assumption) _ | with_reducible exact held_drew (held_alloc hHd _) | with_reducible exact held_set4 (by assumption) lcX ldX hbX.size) ((first | (go_at_call 25; ((with_reducible refine (Hc.out _).mono ?_)); rintro e w9 ⟨rfl, hb9⟩; ((with_reducible have nB : Blk w9 W1.heap.size 56 #[.string ⟨#[]⟩, .int .i64 0, .string ⟨#[]⟩, .int .i64 0] := Blk.below (w := (W1.alloc (.cells #[.string ⟨#[]⟩, .int .i64 0, .string ⟨#[]⟩, .int .i64 0] 56)).drew) (Blk.drew (Blk.new W1 56 #[.string ⟨#[]⟩, .int .i64 0, .string ⟨#[]⟩, .int .i64 0])) hb9 (by simp))); have n0 := nB.cell 0; have n1 := nB.cell 1; have n2 := nB.cell 2; have n3 := nB.cell 3; have m0 := nB.frozen 0; have m1 := nB.frozen 1; have m2 := nB.frozen 2; have m3 := nB.frozen 3; have gC : Blk w9 w8.heap.size 56 #[.string a, .int .i64 sa, .string (b.extract 0 m), .int .i64 (min sb m)] ∧ Blk w9 w.heap.size 56 #[.string a, .int .i64 sa, .string b, .int .i64 sb] ∧ Below w.heap.size w w9 ∧ w9.cell? ⟨w8.heap.size, 0, none⟩ = some (.string a) ∧ w9.cell? ⟨w8.heap.size, 1, none⟩ = some (.int .i64 sa) ∧ w9.cell? ⟨w8.heap.size, 2, none⟩ = some (.string (b.extract 0 m)) ∧ w9.cell? ⟨w8.heap.size, 3, none⟩ = some (.int .i64 (min sb m)) ∧ w9.cell? ⟨w.heap.size, 0, none⟩ = some (.string a) ∧ w9.cell? ⟨w.heap.size, 1, none⟩ = some (.int .i64 sa) ∧ w9.cell? ⟨w.heap.size, 2, none⟩ = some (.string b) ∧ w9.cell? ⟨w.heap.size, 3, none⟩ = some (.int .i64 sb) := held_below (by assumption) hb9) | (go_at_call 25; ((with_reducible refine (Hc.out _).mono ?_)); rintro e w9 ⟨rfl, hb9⟩; have gC : Blk w9 w8.heap.size 56 #[.string a, .int .i64 sa, .string (b.extract 0 m), .int .i64 (min sb m)] ∧ Blk w9 w.heap.size 56 #[.string a, .int .i64 sa, .string b, .int .i64 sb] ∧ Below w.heap.size w w9 ∧ w9.cell? ⟨w8.heap.size, 0, none⟩ = some (.string a) ∧ w9.cell? ⟨w8.heap.size, 1, none⟩ = some (.int .i64 sa) ∧ w9.cell? ⟨w8.heap.size, 2, none⟩ = some (.string (b.extract 0 m)) ∧ w9.cell? ⟨w8.heap.size, 3, none⟩ = some (.int .i64 (min sb m)) ∧ w9.cell? ⟨w.heap.size, 0, none⟩ = some (.string a) ∧ w9.cell? ⟨w.heap.size, 1, none⟩ = some (.int .i64 sa) ∧ w9.cell? ⟨w.heap.size, 2, none⟩ = some (.string b) ∧ w9.cell? ⟨w.heap.size, 3, none⟩ = some (.int .i64 sb) := held_below (by assumption) hb9)))
  all_goals go_wp2_with fail
  all_goals go_quiet (fail)
  all_goals go_wp2_with fail
  all_goals go_ret
  all_goals refine ⟨?_, ?_⟩
  all_goals first | exact below_drewN (Below.alloc gC.2.2.1 (Below.size gC.2.2.1) _) _ | exact below_drewN (((((Below.setCell gC.2.2.1 (p := ⟨W1.heap.size, 0, none⟩) hbX.size _).setCell (p := ⟨W1.heap.size, 1, none⟩) hbX.size _).setCell (p := ⟨W1.heap.size, 2, none⟩) hbX.size _).setCell (p := ⟨W1.heap.size, 3, none⟩) hbX.size _)) _ | (show Ending.returned (.bool (decide (min sb (m : Int) ≤ sb))) = _; rw [decide_eq_true (by omega)]) | rfl
theorem walk_DiskApart (v : Value) (d : Slt × Slt) (hd : IsDisk v d) (i : Int) (wi' : (Lit.int .i64 i).wf = true) (s : ByteArray) (hs : s.size ≤ 140737488351232) (n : Int) (wn : (Lit.int .i64 n).wf = true) (w : World) :
    Calls Try.prog 13 #[v, .int .i64 i, .string s, .int .i64 n] w fun e w' => e = .returned (.bool true) ∧ Below w.heap.size w w' := by
  obtain ⟨⟨a, sa⟩, ⟨b, sb⟩⟩ := d
  obtain ⟨rfl, hda, hdb⟩ := hd
  by_cases h : dlook (a, sa) (b, sb) i = 0
  · rcases (dlook_zero _ _ _ h).1 with rfl | rfl
    · by_cases ha : 1048576 < a.size + s.size
      · by_cases hn : n < 0 ∨ (a.size : Int) < n
        · exact apart_010 a b sa sb s hs n h ha hn w
        · obtain ⟨m, rfl⟩ := Int.eq_ofNat_of_zero_le (show 0 ≤ n by omega)
          exact apart_011 a b sa sb s hs h ha m (by omega) w
      · by_cases hn : n < 0 ∨ (a.size : Int) < n
        · exact apart_000 a b sa sb s hs n h ha hn w
        · obtain ⟨m, rfl⟩ := Int.eq_ofNat_of_zero_le (show 0 ≤ n by omega)
          exact apart_001 a b sa sb s hs h ha m (by omega) w
    · by_cases ha : 1048576 < b.size + s.size
      · by_cases hn : n < 0 ∨ (b.size : Int) < n
        · exact apart_110 a b sa sb s hs n h ha hn w
        · obtain ⟨m, rfl⟩ := Int.eq_ofNat_of_zero_le (show 0 ≤ n by omega)
          exact apart_111 a b sa sb s hs h ha m (by omega) w
      · by_cases hn : n < 0 ∨ (b.size : Int) < n
        · exact apart_100 a b sa sb s hs n h ha hn w
        · obtain ⟨m, rfl⟩ := Int.eq_ofNat_of_zero_le (show 0 ≤ n by omega)
          exact apart_101 a b sa sb s hs h ha m (by omega) w
  · exact apart_look a b sa sb i s hs n h w
end Go.Proofs.Ytdaiemhepaakfaa
