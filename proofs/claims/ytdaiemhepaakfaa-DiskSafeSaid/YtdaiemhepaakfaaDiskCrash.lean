/- Contract of disk.Crash. -/
import Derived.Test.YtdaiemhepaakfaaDisk
import Derived.Test.YtdaiemhepaakfaaMinMax
namespace Go.Proofs.Ytdaiemhepaakfaa
open Go.ChangeShapes Go.WideShapes Go.RowKit
set_option linter.unusedVariables false
set_option linter.unusedSimpArgs false
set_option maxRecDepth 100000
set_option maxHeartbeats 4000000

theorem below_drewN {B : Nat} {a w : World} (h : Below B a w) (n : Nat) : Below B a (w.drewN n) := ⟨h.os, h.tape, h.output, h.size, h.block⟩
theorem slt_ext (a : ByteArray) {t u : Int} (h : t = u) : ((a.extract 0 t.toNat, t) : Slt) = (a.extract 0 u.toNat, u) := by rw [h]
theorem dchk_zero (x y : Slt) (h : dchk x y = 0) : (x.1.size : Int) ≤ 1048576 ∧ (y.1.size : Int) ≤ 1048576 ∧ 0 ≤ x.2 ∧ x.2 ≤ (x.1.size : Int) ∧ 0 ≤ y.2 ∧ y.2 ≤ (y.1.size : Int) := by
  unfold dchk at h
  rcases sbad_cases x with hx | hx | hx <;> rcases sbad_cases y with hy | hy | hy <;> simp [hx, hy] at h <;> omega
theorem dcrash_bad (x y : Slt) (k0 k1 : Int) (w : World) (h : dchk x y ≠ 0) :
    Calls Try.prog 26 #[dvl x y, .agg #[.int .i64 k0, .int .i64 k1]] w fun e w' => e = .returned (dres dzero dzero (dchk x y)) ∧ Below w.heap.size w w' := by
  obtain ⟨a, sa⟩ := x
  obtain ⟨b, sb⟩ := y
  unfold dvl
  simp only
  go_enter Try.func26, Try.ntmps26
  go_wp2_with fail
  refine (dcheck_any (a, sa) (b, sb) _).mono ?_
  rintro e w1 ⟨rfl, hb1⟩
  have hD := (((Blk.new w 56 #[.string a, .int .i64 sa, .string b, .int .i64 sb]).alloc (.cells #[.int .i64 k0, .int .i64 k1] 60)).alloc (.cells #[.string ⟨#[]⟩, .int .i64 0, .string ⟨#[]⟩, .int .i64 0] 56)).below hb1 (by simp; omega)
  have hK := ((Blk.new (w.alloc (.cells #[.string a, .int .i64 sa, .string b, .int .i64 sb] 56)) 60 #[.int .i64 k0, .int .i64 k1]).alloc (.cells #[.string ⟨#[]⟩, .int .i64 0, .string ⟨#[]⟩, .int .i64 0] 56)).below hb1 (by simp)
  have hR := (Blk.new ((w.alloc (.cells #[.string a, .int .i64 sa, .string b, .int .i64 sb] 56)).alloc (.cells #[.int .i64 k0, .int .i64 k1] 60)) 56 #[.string ⟨#[]⟩, .int .i64 0, .string ⟨#[]⟩, .int .i64 0]).below hb1 (by simp)
  simp only [World.size_alloc] at hR hK
  have hbw : Below w.heap.size w w1 := ((((Below.refl w.heap.size w).alloc (Nat.le_refl _) _).alloc (by simp) _).alloc (by simp; omega) _).trans (hb1.mono (by simp; omega))
  have hne : ((dchk (a, sa) (b, sb)) != 0) = true := by simpa using h
  have c0 := hR.cell 0
  have f0 := hR.frozen 0
  have c1 := hR.cell 1
  have f1 := hR.frozen 1
  have c2 := hR.cell 2
  have f2 := hR.frozen 2
  have c3 := hR.cell 3
  have f3 := hR.frozen 3
  clear hb1 h
  have HR := Lib.hid hR
  have HD := Lib.hid hD
  have HK := Lib.hid hK
  clear hR hD hK
  go_wp2_with fail
  exact disk_end (g := w.heap.size + 1 + 1) (x := dzero) (y := dzero) (e := dchk (a, sa) (b, sb)) rfl rfl rfl rfl ((((((((HR.out).set_ 0 _)).set_ 1 _)).set_ 2 _)).set_ 3 _) ⟨rfl, ((((((((hbw).setCell (p := ⟨w.heap.size + 1 + 1, 0, none⟩) (by simp; try omega) _)).setCell (p := ⟨w.heap.size + 1 + 1, 1, none⟩) (by simp; try omega) _)).setCell (p := ⟨w.heap.size + 1 + 1, 2, none⟩) (by simp; try omega) _)).setCell (p := ⟨w.heap.size + 1 + 1, 3, none⟩) (by simp; try omega) _)⟩

def crashS (s : Slt) (k : Int) : Slt := (s.1.extract 0 (s.2 + max 0 (min k ((s.1.size : Int) - s.2))).toNat, s.2 + max 0 (min k ((s.1.size : Int) - s.2)))
def CrInv (x y : Slt) (k0 k1 : Int) (k : Nat) (X Y : Slt) : Prop := (k = 0 ∧ X = x ∧ Y = y) ∨ (k = 1 ∧ X = crashS x k0 ∧ Y = y) ∨ (k = 2 ∧ X = crashS x k0 ∧ Y = crashS y k1)
theorem dcrash_good (x y : Slt) (k0 k1 : Int) (w : World) (h : dchk x y = 0) :
    Calls Try.prog 26 #[dvl x y, .agg #[.int .i64 k0, .int .i64 k1]] w fun e w' => e = .returned (dres (crashS x k0) (crashS y k1) 0) ∧ Below w.heap.size w w' := by
  obtain ⟨a, sa⟩ := x
  obtain ⟨b, sb⟩ := y
  unfold dvl
  simp only
  have hz := dchk_zero _ _ h
  simp only at hz
  obtain ⟨ha, hb, ha0, ha1, hb0, hb1'⟩ := hz
  go_enter Try.func26, Try.ntmps26
  go_wp2_with fail
  refine (dcheck_any (a, sa) (b, sb) _).mono ?_
  rintro e w1 ⟨rfl, hb1⟩
  have hD := (((Blk.new w 56 #[.string a, .int .i64 sa, .string b, .int .i64 sb]).alloc (.cells #[.int .i64 k0, .int .i64 k1] 60)).alloc (.cells #[.string ⟨#[]⟩, .int .i64 0, .string ⟨#[]⟩, .int .i64 0] 56)).below hb1 (by simp; omega)
  have hK := ((Blk.new (w.alloc (.cells #[.string a, .int .i64 sa, .string b, .int .i64 sb] 56)) 60 #[.int .i64 k0, .int .i64 k1]).alloc (.cells #[.string ⟨#[]⟩, .int .i64 0, .string ⟨#[]⟩, .int .i64 0] 56)).below hb1 (by simp)
  have hR := (Blk.new ((w.alloc (.cells #[.string a, .int .i64 sa, .string b, .int .i64 sb] 56)).alloc (.cells #[.int .i64 k0, .int .i64 k1] 60)) 56 #[.string ⟨#[]⟩, .int .i64 0, .string ⟨#[]⟩, .int .i64 0]).below hb1 (by simp)
  simp only [World.size_alloc] at hR hK
  have hbw : Below w.heap.size w w1 := ((((Below.refl w.heap.size w).alloc (Nat.le_refl _) _).alloc (by simp) _).alloc (by simp; omega) _).trans (hb1.mono (by simp; omega))
  rw [h]
  have c0 := hR.cell 0
  have f0 := hR.frozen 0
  have c1 := hR.cell 1
  have f1 := hR.frozen 1
  have c2 := hR.cell 2
  have f2 := hR.frozen 2
  have c3 := hR.cell 3
  have f3 := hR.frozen 3
  have d0 := hD.cell 0
  have g0 := hD.frozen 0
  have d1 := hD.cell 1
  have g1 := hD.frozen 1
  have d2 := hD.cell 2
  have g2 := hD.frozen 2
  have d3 := hD.cell 3
  have g3 := hD.frozen 3
  have k0c := hK.cell 0
  have k1c := hK.cell 1
  clear hb1 h
  have HR := Lib.hid hR
  have HD := Lib.hid hD
  have HK := Lib.hid hK
  clear hR hD hK
  clear c0 c1 c2 c3 f0 f1 f2 f3 d0 d1 d2 d3 g0 g1 g2 g3 k0c k1c
  go_wp2_with fail
  go_loopw [7, 8, 9, 16] (fun _ _ _ i wr => ∃ (k : Nat) (X Y : Slt), k ≤ 2 ∧ i = .int .i64 k ∧ CrInv (a, sa) (b, sb) k0 k1 k X Y ∧ Blk wr w.heap.size 56 #[.string X.1, .int .i64 X.2, .string Y.1, .int .i64 Y.2] ∧
      Blk wr (w.heap.size + 1) 60 #[.int .i64 k0, .int .i64 k1] ∧ Blk wr (w.heap.size + 1 + 1) 56 #[.string ⟨#[]⟩, .int .i64 0, .string ⟨#[]⟩, .int .i64 0] ∧ Below w.heap.size w wr) (fun _ _ _ i _ => 2 - (intOf i).toNat)
  case atStart => exact ⟨0, (a, sa), (b, sb), by omega, rfl, .inl ⟨rfl, rfl, rfl⟩, HD.out, HK.out, HR.out, hbw⟩
  case round =>
    obtain ⟨k, X, Y, hk, rfl, hinv, hD, hK, hR, hb⟩ := hrel
    rcases hinv with ⟨rfl, rfl, rfl⟩ | ⟨rfl, rfl, rfl⟩ | ⟨rfl, rfl, rfl⟩
    · have k0c := hK.cell 0
      have k1c := hK.cell 1
      have d0 := hD.cell 0
      have g0 := hD.frozen 0
      have d1 := hD.cell 1
      have g1 := hD.frozen 1
      have d2 := hD.cell 2
      have g2 := hD.frozen 2
      have d3 := hD.cell 3
      have g3 := hD.frozen 3
      have HDk := Lib.hid hD
      have HKk := Lib.hid hK
      have HRk := Lib.hid hR
      clear hD hK hR
      go_wp2_with fail
      have hw1 : IntKind.i64.wrap ((a.size : Int) - sa) = (a.size : Int) - sa := IntWalk.i64_in _ (by omega)
      have hcase : (k0 ≤ 0 ∧ max 0 (min k0 ((a.size : Int) - sa)) = 0) ∨ (0 < k0 ∧ k0 ≤ (a.size : Int) - sa ∧ max 0 (min k0 ((a.size : Int) - sa)) = k0) ∨ (0 < k0 ∧ (a.size : Int) - sa < k0 ∧ max 0 (min k0 ((a.size : Int) - sa)) = (a.size : Int) - sa) := by omega
      rcases hcase with ⟨q1, hn⟩ | ⟨q1, q2, hn⟩ | ⟨q1, q2, hn⟩
      · have Hn := Lib.hid hn
        clear hn
        go_quiet (fail)
        go_wp2_with fail
        go_roundw
        case rel =>
          refine ⟨1, (_, _), (b, sb), by omega, rfl, .inr (.inl ⟨rfl, ?_, rfl⟩), ((HDk.out.drewN _).set_ 0 _).set_ 1 _, ((HKk.out.drewN _).far (by simp) _).far (by simp) _, ((HRk.out.drewN _).far (by simp; omega) _).far (by simp; omega) _, ((below_drewN hb _).setCell (by simp) _).setCell (by simp) _⟩
          unfold crashS
          rw [Hn.out]
          exact slt_ext _ (by first | omega | (split <;> omega))
        case measure => simp [intOf]
      · have Hn := Lib.hid hn
        clear hn
        go_quiet (fail)
        go_wp2_with fail
        go_roundw
        case rel =>
          refine ⟨1, (_, _), (b, sb), by omega, rfl, .inr (.inl ⟨rfl, ?_, rfl⟩), ((HDk.out.drewN _).set_ 0 _).set_ 1 _, ((HKk.out.drewN _).far (by simp) _).far (by simp) _, ((HRk.out.drewN _).far (by simp; omega) _).far (by simp; omega) _, ((below_drewN hb _).setCell (by simp) _).setCell (by simp) _⟩
          unfold crashS
          rw [Hn.out]
          exact slt_ext _ (by first | omega | (split <;> omega))
        case measure => simp [intOf]
      · have Hn := Lib.hid hn
        clear hn
        go_quiet (fail)
        go_wp2_with fail
        go_roundw
        case rel =>
          refine ⟨1, (_, _), (b, sb), by omega, rfl, .inr (.inl ⟨rfl, ?_, rfl⟩), ((HDk.out.drewN _).set_ 0 _).set_ 1 _, ((HKk.out.drewN _).far (by simp) _).far (by simp) _, ((HRk.out.drewN _).far (by simp; omega) _).far (by simp; omega) _, ((below_drewN hb _).setCell (by simp) _).setCell (by simp) _⟩
          unfold crashS
          rw [Hn.out]
          exact slt_ext _ (by first | omega | (split <;> omega))
        case measure => simp [intOf]
    · have k0c := hK.cell 0
      have k1c := hK.cell 1
      have d0 := hD.cell 0
      have g0 := hD.frozen 0
      have d1 := hD.cell 1
      have g1 := hD.frozen 1
      have d2 := hD.cell 2
      have g2 := hD.frozen 2
      have d3 := hD.cell 3
      have g3 := hD.frozen 3
      have HDk := Lib.hid hD
      have HKk := Lib.hid hK
      have HRk := Lib.hid hR
      clear hD hK hR
      go_wp2_with fail
      have hw1 : IntKind.i64.wrap ((b.size : Int) - sb) = (b.size : Int) - sb := IntWalk.i64_in _ (by omega)
      have hcase : (k1 ≤ 0 ∧ max 0 (min k1 ((b.size : Int) - sb)) = 0) ∨ (0 < k1 ∧ k1 ≤ (b.size : Int) - sb ∧ max 0 (min k1 ((b.size : Int) - sb)) = k1) ∨ (0 < k1 ∧ (b.size : Int) - sb < k1 ∧ max 0 (min k1 ((b.size : Int) - sb)) = (b.size : Int) - sb) := by omega
      rcases hcase with ⟨q1, hn⟩ | ⟨q1, q2, hn⟩ | ⟨q1, q2, hn⟩
      · have Hn := Lib.hid hn
        clear hn
        go_quiet (fail)
        go_wp2_with fail
        go_roundw
        case rel =>
          refine ⟨2, crashS (a, sa) k0, (_, _), by omega, rfl, .inr (.inr ⟨rfl, rfl, ?_⟩), ((HDk.out.drewN _).set_ 2 _).set_ 3 _, ((HKk.out.drewN _).far (by simp) _).far (by simp) _, ((HRk.out.drewN _).far (by simp; omega) _).far (by simp; omega) _, ((below_drewN hb _).setCell (by simp) _).setCell (by simp) _⟩
          unfold crashS
          rw [Hn.out]
          exact slt_ext _ (by first | omega | (split <;> omega))
        case measure => simp [intOf]
      · have Hn := Lib.hid hn
        clear hn
        go_quiet (fail)
        go_wp2_with fail
        go_roundw
        case rel =>
          refine ⟨2, crashS (a, sa) k0, (_, _), by omega, rfl, .inr (.inr ⟨rfl, rfl, ?_⟩), ((HDk.out.drewN _).set_ 2 _).set_ 3 _, ((HKk.out.drewN _).far (by simp) _).far (by simp) _, ((HRk.out.drewN _).far (by simp; omega) _).far (by simp; omega) _, ((below_drewN hb _).setCell (by simp) _).setCell (by simp) _⟩
          unfold crashS
          rw [Hn.out]
          exact slt_ext _ (by first | omega | (split <;> omega))
        case measure => simp [intOf]
      · have Hn := Lib.hid hn
        clear hn
        go_quiet (fail)
        go_wp2_with fail
        go_roundw
        case rel =>
          refine ⟨2, crashS (a, sa) k0, (_, _), by omega, rfl, .inr (.inr ⟨rfl, rfl, ?_⟩), ((HDk.out.drewN _).set_ 2 _).set_ 3 _, ((HKk.out.drewN _).far (by simp) _).far (by simp) _, ((HRk.out.drewN _).far (by simp; omega) _).far (by simp; omega) _, ((below_drewN hb _).setCell (by simp) _).setCell (by simp) _⟩
          unfold crashS
          rw [Hn.out]
          exact slt_ext _ (by first | omega | (split <;> omega))
        case measure => simp [intOf]
    · have HRk := Lib.hid hR
      have c0 := hR.cell 0
      have f0 := hR.frozen 0
      have d0 := hD.cell 0
      have c1 := hR.cell 1
      have f1 := hR.frozen 1
      have d1 := hD.cell 1
      have c2 := hR.cell 2
      have f2 := hR.frozen 2
      have d2 := hD.cell 2
      have c3 := hR.cell 3
      have f3 := hR.frozen 3
      have d3 := hD.cell 3
      clear hR hD hK
      go_wp2_with fail
      exact disk_end (g := w.heap.size + 1 + 1) (x := crashS (a, sa) k0) (y := crashS (b, sb) k1) (e := 0) rfl rfl rfl rfl ((((HRk.out.set_ 0 _).set_ 1 _).set_ 2 _).set_ 3 _)
        ⟨rfl, (((hb.setCell (p := ⟨w.heap.size + 1 + 1, 0, none⟩) (by simp; omega) _).setCell (p := ⟨w.heap.size + 1 + 1, 1, none⟩) (by simp; omega) _).setCell (p := ⟨w.heap.size + 1 + 1, 2, none⟩) (by simp; omega) _).setCell (p := ⟨w.heap.size + 1 + 1, 3, none⟩) (by simp; omega) _⟩
end Go.Proofs.Ytdaiemhepaakfaa
