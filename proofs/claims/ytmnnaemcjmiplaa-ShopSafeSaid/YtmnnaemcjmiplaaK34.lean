/- Contract of disk.Crash. What is read of a slot whose end is gone (pure). A message that is handed in twice (pure). -/
import Derived.Test.YtmnnaemcjmiplaaK23
import Derived.Test.YtmnnaemcjmiplaaK3
import Derived.Test.YtmnnaemcjmiplaaK30
import Derived.Test.YtmnnaemcjmiplaaK31
import Derived.Test.YtmnnaemcjmiplaaK33
namespace Go.Proofs.Ytmnnaemcjmiplaa
open Go.ChangeShapes Go.WideShapes Go.RowKit
set_option linter.unusedVariables false
set_option linter.unusedSimpArgs false
set_option maxRecDepth 100000
set_option maxHeartbeats 4000000

theorem below_drewN {B : Nat} {a w : World} (h : Below B a w) (n : Nat) : Below B a (w.drewN n) := ⟨h.os, h.tape, h.output, h.size, h.block⟩
theorem slt_ext (a : ByteArray) {t u : Int} (h : t = u) : ((a.extract 0 t.toNat, t) : Slt) = (a.extract 0 u.toNat, u) := by rw [h]
theorem dchk_zero (x y : Slt) (h : dchk x y = 0) : (x.1.size : Int) ≤ 1048576 ∧ (y.1.size : Int) ≤ 1048576 ∧ 0 ≤ x.2 ∧ x.2 ≤ (x.1.size : Int) ∧ 0 ≤ y.2 ∧ y.2 ≤ (y.1.size : Int) := by
  unfold dchk at h
  rcases sbad_cases x with hx | hx | hx <;> rcases sbad_cases y with hy | hy | hy <;> simp [hx, hy] at h <;> omega
theorem dcrash_bad (x y : Slt) (k0 k1 : Int) (w : World) (h : dchk x y ≠ 0) :
    Calls Try.prog 62 #[dvl x y, .agg #[.int .i64 k0, .int .i64 k1]] w fun e w' => e = .returned (dres dzero dzero (dchk x y)) ∧ Below w.heap.size w w' := by
  obtain ⟨a, sa⟩ := x
  obtain ⟨b, sb⟩ := y
  unfold dvl
  simp only
  go_enter Try.func62, Try.ntmps62
  go_wp2_with fail
  refine (dcheck_any (a, sa) (b, sb) _).mono ?_
  rintro e w1 ⟨rfl, hb1⟩
  have hD := (((Blk.new w 44 #[.string a, .int .i64 sa, .string b, .int .i64 sb]).alloc (.cells #[.int .i64 k0, .int .i64 k1] 101)).alloc (.cells #[.string ⟨#[]⟩, .int .i64 0, .string ⟨#[]⟩, .int .i64 0] 44)).below hb1 (by simp; omega)
  have hK := ((Blk.new (w.alloc (.cells #[.string a, .int .i64 sa, .string b, .int .i64 sb] 44)) 101 #[.int .i64 k0, .int .i64 k1]).alloc (.cells #[.string ⟨#[]⟩, .int .i64 0, .string ⟨#[]⟩, .int .i64 0] 44)).below hb1 (by simp)
  have hR := (Blk.new ((w.alloc (.cells #[.string a, .int .i64 sa, .string b, .int .i64 sb] 44)).alloc (.cells #[.int .i64 k0, .int .i64 k1] 101)) 44 #[.string ⟨#[]⟩, .int .i64 0, .string ⟨#[]⟩, .int .i64 0]).below hb1 (by simp)
  simp only [World.size_alloc] at hR hK
  have hbw : Below w.heap.size w w1 := ((((Below.refl w.heap.size w).alloc (Nat.le_refl _) _).alloc (by simp) _).alloc (by simp; omega) _).trans (hb1.mono (by simp; omega))
  have hne : ((dchk (a, sa) (b, sb)) != 0) = true := by simpa using h
  have c0 := hR.cell 0
  have f0 := hR.frozen 0
  have c1 := hR.cell 1
  have f1 := hR.frozen 1
  have c2 := hR.cell 2
  have f2 := hR.frozen 2
  have c3 := hR.cell 3
  have f3 := hR.frozen 3
  clear hb1 h
  have HR := Lib.hid hR
  have HD := Lib.hid hD
  have HK := Lib.hid hK
  clear hR hD hK
  go_wp2_with fail
  exact disk_end (g := w.heap.size + 1 + 1) (x := dzero) (y := dzero) (e := dchk (a, sa) (b, sb)) rfl rfl rfl rfl ((((((((HR.out).set_ 0 _)).set_ 1 _)).set_ 2 _)).set_ 3 _) ⟨rfl, ((((((((hbw).setCell (p := ⟨w.heap.size + 1 + 1, 0, none⟩) (by simp; try omega) _)).setCell (p := ⟨w.heap.size + 1 + 1, 1, none⟩) (by simp; try omega) _)).setCell (p := ⟨w.heap.size + 1 + 1, 2, none⟩) (by simp; try omega) _)).setCell (p := ⟨w.heap.size + 1 + 1, 3, none⟩) (by simp; try omega) _)⟩

def crashS (s : Slt) (k : Int) : Slt := (s.1.extract 0 (s.2 + max 0 (min k ((s.1.size : Int) - s.2))).toNat, s.2 + max 0 (min k ((s.1.size : Int) - s.2)))
def CrInv (x y : Slt) (k0 k1 : Int) (k : Nat) (X Y : Slt) : Prop := (k = 0 ∧ X = x ∧ Y = y) ∨ (k = 1 ∧ X = crashS x k0 ∧ Y = y) ∨ (k = 2 ∧ X = crashS x k0 ∧ Y = crashS y k1)
theorem dcrash_good (x y : Slt) (k0 k1 : Int) (w : World) (h : dchk x y = 0) :
    Calls Try.prog 62 #[dvl x y, .agg #[.int .i64 k0, .int .i64 k1]] w fun e w' => e = .returned (dres (crashS x k0) (crashS y k1) 0) ∧ Below w.heap.size w w' := by
  obtain ⟨a, sa⟩ := x
  obtain ⟨b, sb⟩ := y
  unfold dvl
  simp only
  have hz := dchk_zero _ _ h
  simp only at hz
  obtain ⟨ha, hb, ha0, ha1, hb0, hb1'⟩ := hz
  go_enter Try.func62, Try.ntmps62
  go_wp2_with fail
  refine (dcheck_any (a, sa) (b, sb) _).mono ?_
  rintro e w1 ⟨rfl, hb1⟩
  have hD := (((Blk.new w 44 #[.string a, .int .i64 sa, .string b, .int .i64 sb]).alloc (.cells #[.int .i64 k0, .int .i64 k1] 101)).alloc (.cells #[.string ⟨#[]⟩, .int .i64 0, .string ⟨#[]⟩, .int .i64 0] 44)).below hb1 (by simp; omega)
  have hK := ((Blk.new (w.alloc (.cells #[.string a, .int .i64 sa, .string b, .int .i64 sb] 44)) 101 #[.int .i64 k0, .int .i64 k1]).alloc (.cells #[.string ⟨#[]⟩, .int .i64 0, .string ⟨#[]⟩, .int .i64 0] 44)).below hb1 (by simp)
  have hR := (Blk.new ((w.alloc (.cells #[.string a, .int .i64 sa, .string b, .int .i64 sb] 44)).alloc (.cells #[.int .i64 k0, .int .i64 k1] 101)) 44 #[.string ⟨#[]⟩, .int .i64 0, .string ⟨#[]⟩, .int .i64 0]).below hb1 (by simp)
  simp only [World.size_alloc] at hR hK
  have hbw : Below w.heap.size w w1 := ((((Below.refl w.heap.size w).alloc (Nat.le_refl _) _).alloc (by simp) _).alloc (by simp; omega) _).trans (hb1.mono (by simp; omega))
  rw [h]
  have c0 := hR.cell 0
  have f0 := hR.frozen 0
  have c1 := hR.cell 1
  have f1 := hR.frozen 1
  have c2 := hR.cell 2
  have f2 := hR.frozen 2
  have c3 := hR.cell 3
  have f3 := hR.frozen 3
  have d0 := hD.cell 0
  have g0 := hD.frozen 0
  have d1 := hD.cell 1
  have g1 := hD.frozen 1
  have d2 := hD.cell 2
  have g2 := hD.frozen 2
  have d3 := hD.cell 3
  have g3 := hD.frozen 3
  have k0c := hK.cell 0
  have k1c := hK.cell 1
  clear hb1 h
  have HR := Lib.hid hR
  have HD := Lib.hid hD
  have HK := Lib.hid hK
  clear hR hD hK
  clear c0 c1 c2 c3 f0 f1 f2 f3 d0 d1 d2 d3 g0 g1 g2 g3 k0c k1c
  go_wp2_with fail
  go_loopw [7, 8, 9, 16] (fun _ _ _ i wr => ∃ (k : Nat) (X Y : Slt), k ≤ 2 ∧ i = .int .i64 k ∧ CrInv (a, sa) (b, sb) k0 k1 k X Y ∧ Blk wr w.heap.size 44 #[.string X.1, .int .i64 X.2, .string Y.1, .int .i64 Y.2] ∧
      Blk wr (w.heap.size + 1) 101 #[.int .i64 k0, .int .i64 k1] ∧ Blk wr (w.heap.size + 1 + 1) 44 #[.string ⟨#[]⟩, .int .i64 0, .string ⟨#[]⟩, .int .i64 0] ∧ Below w.heap.size w wr) (fun _ _ _ i _ => 2 - (intOf i).toNat)
  case atStart => exact ⟨0, (a, sa), (b, sb), by omega, rfl, .inl ⟨rfl, rfl, rfl⟩, HD.out, HK.out, HR.out, hbw⟩
  case round =>
    obtain ⟨k, X, Y, hk, rfl, hinv, hD, hK, hR, hb⟩ := hrel
    rcases hinv with ⟨rfl, rfl, rfl⟩ | ⟨rfl, rfl, rfl⟩ | ⟨rfl, rfl, rfl⟩
    · have k0c := hK.cell 0
      have k1c := hK.cell 1
      have d0 := hD.cell 0
      have g0 := hD.frozen 0
      have d1 := hD.cell 1
      have g1 := hD.frozen 1
      have d2 := hD.cell 2
      have g2 := hD.frozen 2
      have d3 := hD.cell 3
      have g3 := hD.frozen 3
      have HDk := Lib.hid hD
      have HKk := Lib.hid hK
      have HRk := Lib.hid hR
      clear hD hK hR
      go_wp2_with fail
      have hw1 : IntKind.i64.wrap ((a.size : Int) - sa) = (a.size : Int) - sa := IntWalk.i64_in _ (by omega)
      have hcase : (k0 ≤ 0 ∧ max 0 (min k0 ((a.size : Int) - sa)) = 0) ∨ (0 < k0 ∧ k0 ≤ (a.size : Int) - sa ∧ max 0 (min k0 ((a.size : Int) - sa)) = k0) ∨ (0 < k0 ∧ (a.size : Int) - sa < k0 ∧ max 0 (min k0 ((a.size : Int) - sa)) = (a.size : Int) - sa) := by omega
      rcases hcase with ⟨q1, hn⟩ | ⟨q1, q2, hn⟩ | ⟨q1, q2, hn⟩
      · have Hn := Lib.hid hn
        clear hn
        go_quiet (fail)
        go_wp2_with fail
        go_roundw
        case rel =>
          refine ⟨1, (_, _), (b, sb), by omega, rfl, .inr (.inl ⟨rfl, ?_, rfl⟩), ((HDk.out.drewN _).set_ 0 _).set_ 1 _, ((HKk.out.drewN _).far (by simp) _).far (by simp) _, ((HRk.out.drewN _).far (by simp; omega) _).far (by simp; omega) _, ((below_drewN hb _).setCell (by simp) _).setCell (by simp) _⟩
          unfold crashS
          rw [Hn.out]
          exact slt_ext _ (by first | omega | (split <;> omega))
        case measure => simp [intOf]
      · have Hn := Lib.hid hn
        clear hn
        go_quiet (fail)
        go_wp2_with fail
        go_roundw
        case rel =>
          refine ⟨1, (_, _), (b, sb), by omega, rfl, .inr (.inl ⟨rfl, ?_, rfl⟩), ((HDk.out.drewN _).set_ 0 _).set_ 1 _, ((HKk.out.drewN _).far (by simp) _).far (by simp) _, ((HRk.out.drewN _).far (by simp; omega) _).far (by simp; omega) _, ((below_drewN hb _).setCell (by simp) _).setCell (by simp) _⟩
          unfold crashS
          rw [Hn.out]
          exact slt_ext _ (by first | omega | (split <;> omega))
        case measure => simp [intOf]
      · have Hn := Lib.hid hn
        clear hn
        go_quiet (fail)
        go_wp2_with fail
        go_roundw
        case rel =>
          refine ⟨1, (_, _), (b, sb), by omega, rfl, .inr (.inl ⟨rfl, ?_, rfl⟩), ((HDk.out.drewN _).set_ 0 _).set_ 1 _, ((HKk.out.drewN _).far (by simp) _).far (by simp) _, ((HRk.out.drewN _).far (by simp; omega) _).far (by simp; omega) _, ((below_drewN hb _).setCell (by simp) _).setCell (by simp) _⟩
          unfold crashS
          rw [Hn.out]
          exact slt_ext _ (by first | omega | (split <;> omega))
        case measure => simp [intOf]
    · have k0c := hK.cell 0
      have k1c := hK.cell 1
      have d0 := hD.cell 0
      have g0 := hD.frozen 0
      have d1 := hD.cell 1
      have g1 := hD.frozen 1
      have d2 := hD.cell 2
      have g2 := hD.frozen 2
      have d3 := hD.cell 3
      have g3 := hD.frozen 3
      have HDk := Lib.hid hD
      have HKk := Lib.hid hK
      have HRk := Lib.hid hR
      clear hD hK hR
      go_wp2_with fail
      have hw1 : IntKind.i64.wrap ((b.size : Int) - sb) = (b.size : Int) - sb := IntWalk.i64_in _ (by omega)
      have hcase : (k1 ≤ 0 ∧ max 0 (min k1 ((b.size : Int) - sb)) = 0) ∨ (0 < k1 ∧ k1 ≤ (b.size : Int) - sb ∧ max 0 (min k1 ((b.size : Int) - sb)) = k1) ∨ (0 < k1 ∧ (b.size : Int) - sb < k1 ∧ max 0 (min k1 ((b.size : Int) - sb)) = (b.size : Int) - sb) := by omega
      rcases hcase with ⟨q1, hn⟩ | ⟨q1, q2, hn⟩ | ⟨q1, q2, hn⟩
      · have Hn := Lib.hid hn
        clear hn
        go_quiet (fail)
        go_wp2_with fail
        go_roundw
        case rel =>
          refine ⟨2, crashS (a, sa) k0, (_, _), by omega, rfl, .inr (.inr ⟨rfl, rfl, ?_⟩), ((HDk.out.drewN _).set_ 2 _).set_ 3 _, ((HKk.out.drewN _).far (by simp) _).far (by simp) _, ((HRk.out.drewN _).far (by simp; omega) _).far (by simp; omega) _, ((below_drewN hb _).setCell (by simp) _).setCell (by simp) _⟩
          unfold crashS
          rw [Hn.out]
          exact slt_ext _ (by first | omega | (split <;> omega))
        case measure => simp [intOf]
      · have Hn := Lib.hid hn
        clear hn
        go_quiet (fail)
        go_wp2_with fail
        go_roundw
        case rel =>
          refine ⟨2, crashS (a, sa) k0, (_, _), by omega, rfl, .inr (.inr ⟨rfl, rfl, ?_⟩), ((HDk.out.drewN _).set_ 2 _).set_ 3 _, ((HKk.out.drewN _).far (by simp) _).far (by simp) _, ((HRk.out.drewN _).far (by simp; omega) _).far (by simp; omega) _, ((below_drewN hb _).setCell (by simp) _).setCell (by simp) _⟩
          unfold crashS
          rw [Hn.out]
          exact slt_ext _ (by first | omega | (split <;> omega))
        case measure => simp [intOf]
      · have Hn := Lib.hid hn
        clear hn
        go_quiet (fail)
        go_wp2_with fail
        go_roundw
        case rel =>
          refine ⟨2, crashS (a, sa) k0, (_, _), by omega, rfl, .inr (.inr ⟨rfl, rfl, ?_⟩), ((HDk.out.drewN _).set_ 2 _).set_ 3 _, ((HKk.out.drewN _).far (by simp) _).far (by simp) _, ((HRk.out.drewN _).far (by simp; omega) _).far (by simp; omega) _, ((below_drewN hb _).setCell (by simp) _).setCell (by simp) _⟩
          unfold crashS
          rw [Hn.out]
          exact slt_ext _ (by first | omega | (split <;> omega))
        case measure => simp [intOf]
    · have HRk := Lib.hid hR
      have c0 := hR.cell 0
      have f0 := hR.frozen 0
      have d0 := hD.cell 0
      have c1 := hR.cell 1
      have f1 := hR.frozen 1
      have d1 := hD.cell 1
      have c2 := hR.cell 2
      have f2 := hR.frozen 2
      have d2 := hD.cell 2
      have c3 := hR.cell 3
      have f3 := hR.frozen 3
      have d3 := hD.cell 3
      clear hR hD hK
      go_wp2_with fail
      exact disk_end (g := w.heap.size + 1 + 1) (x := crashS (a, sa) k0) (y := crashS (b, sb) k1) (e := 0) rfl rfl rfl rfl ((((HRk.out.set_ 0 _).set_ 1 _).set_ 2 _).set_ 3 _)
        ⟨rfl, (((hb.setCell (p := ⟨w.heap.size + 1 + 1, 0, none⟩) (by simp; omega) _).setCell (p := ⟨w.heap.size + 1 + 1, 1, none⟩) (by simp; omega) _).setCell (p := ⟨w.heap.size + 1 + 1, 2, none⟩) (by simp; omega) _).setCell (p := ⟨w.heap.size + 1 + 1, 3, none⟩) (by simp; omega) _⟩
end Go.Proofs.Ytmnnaemcjmiplaa
namespace Go.Proofs.Ytmnnaemcjmiplaa
open Go.ChangeShapes Go.WideShapes Go.RowKit
set_option linter.unusedVariables false
set_option linter.unusedSimpArgs false
set_option maxRecDepth 100000
set_option maxHeartbeats 4000000

section
variable {g b : Nat} {t : List (Nat × Nat)} {tx : ByteArray}
/-- behind the marker: at least what was safe is left -/
theorem cut2 (h : HdI g b t tx) (r1 r2 : List Rv) (h1 : ∀ r ∈ r1, oneE r = 0) (h2 : ∀ r ∈ r2, oneE r = 0) (j0 n : Nat) (hj : j0 ≤ r2.length) (hn : (flat (SF g b t tx r1 (some (r2.take j0)))).length ≤ n) :
    ∃ (i : Nat) (rest : List UInt8), j0 ≤ i ∧ i ≤ r2.length ∧ (flat (SF g b t tx r1 (some r2))).take n = flat (SF g b t tx r1 (some (r2.take i))) ++ rest ∧ (gf rest).2.2.2 ≠ 0 := by
  obtain ⟨rest, e, hr⟩ := cnt_spec (SF g b t tx r1 (some r2)) n (SF_ok h r1 (some r2) h1 (fun l e => by injection e with e; subst e; exact h2))
  have hlen := SF_len (g := g) (b := b) (t := t) (tx := tx) r1 (some r2)
  simp only at hlen
  have hle := cnt_le (SF g b t tx r1 (some r2)) n
  have hge := cnt_ge (SF g b t tx r1 (some r2)) (r1.length + j0 + 2) n (by omega) (by rw [SF_take2]; exact hn)
  obtain ⟨i, hi⟩ : ∃ i, cnt (SF g b t tx r1 (some r2)) n = r1.length + i + 2 := ⟨cnt (SF g b t tx r1 (some r2)) n - r1.length - 2, by omega⟩
  rw [hi, SF_take2] at e
  exact ⟨i, rest, by omega, by omega, e, hr⟩
/-- anything may be gone -/
theorem cut0 (h : HdI g b t tx) (r1 : List Rv) (r2 : Option (List Rv)) (h1 : ∀ r ∈ r1, oneE r = 0) (h2 : ∀ l, r2 = some l → ∀ r ∈ l, oneE r = 0) (n : Nat) :
    ∃ rest : List UInt8, (gf rest).2.2.2 ≠ 0 ∧ ((flat (SF g b t tx r1 r2)).take n = flat [] ++ rest ∨
      (∃ j, j ≤ r1.length ∧ (flat (SF g b t tx r1 r2)).take n = flat (SF g b t tx (r1.take j) none) ++ rest) ∨
      (∃ l i, r2 = some l ∧ i ≤ l.length ∧ (flat (SF g b t tx r1 r2)).take n = flat (SF g b t tx r1 (some (l.take i))) ++ rest)) := by
  obtain ⟨rest, e, hr⟩ := cnt_spec (SF g b t tx r1 r2) n (SF_ok h r1 r2 h1 h2)
  have hlen := SF_len (g := g) (b := b) (t := t) (tx := tx) r1 r2
  have hle := cnt_le (SF g b t tx r1 r2) n
  refine ⟨rest, hr, ?_⟩
  by_cases h0 : cnt (SF g b t tx r1 r2) n = 0
  · rw [h0, List.take_zero] at e
    exact .inl e
  · right
    by_cases hj : cnt (SF g b t tx r1 r2) n ≤ r1.length + 1
    · left
      obtain ⟨j, hjj⟩ : ∃ j, cnt (SF g b t tx r1 r2) n = j + 1 := ⟨cnt (SF g b t tx r1 r2) n - 1, by omega⟩
      rw [hjj, SF_take1 _ _ _ (by omega)] at e
      exact ⟨j, by omega, e⟩
    · right
      cases r2 with
      | none => simp only at hlen; omega
      | some l =>
        simp only at hlen
        obtain ⟨i, hi⟩ : ∃ i, cnt (SF g b t tx r1 (some l)) n = r1.length + i + 2 := ⟨cnt (SF g b t tx r1 (some l)) n - r1.length - 2, by omega⟩
        rw [hi, SF_take2] at e
        exact ⟨l, i, rfl, by omega, e⟩
end
/-- what a slot says that is read: a log that is whole, or none -/
def opS (fs : List Fm) : Option Lg := if hotE fs = 0 ∧ (hotL fs).whole = true then some (hotL fs) else none
theorem opS_nil : opS [] = none := by
  unfold opS
  rw [if_neg]
  intro h
  exact absurd h.1 (by decide)
section
variable {g b : Nat} {t : List (Nat × Nat)} {tx : ByteArray}
theorem opS_1 (h : HdI g b t tx) (r1 : List Rv) (hok : okRs (L0 g b t tx) tx r1) : opS (SF g b t tx r1 none) = none := by
  unfold opS
  rw [if_neg]
  rintro ⟨_, e⟩
  rw [(hot_SF1 h r1 hok).2] at e
  cases e
theorem opS_2 (h : HdI g b t tx) (r1 r2 : List Rv) (hok : okRs (L0 g b t tx) tx (r1 ++ r2)) : opS (SF g b t tx r1 (some r2)) = some (sfL g b t tx (r1 ++ r2) true (flat (SF g b t tx r1 (some r2))).length) := by
  unfold opS
  obtain ⟨a, b⟩ := hot_SF2 h r1 r2 hok
  rw [b, if_pos ⟨a, rfl⟩]
end
/-- a log whose last revisions are gone is a log -/
theorem okRs_take : ∀ (rs : List Rv) (l : Lg) (t : ByteArray) (i : Nat), okRs l t rs → okRs l t (rs.take i) := by
  intro rs l t i h
  rw [← List.take_append_drop i rs] at h
  exact ((okRs_app _ _ _ _).1 h).1
/-- the archive that Open makes of two slots, of which that at 'a' says the log l -/
def opnS (x y : Slt) (a : Nat) (l : Lg) : Sh :=
  { syncSh (trimSh (trimSh ⟨x, y, a, l, ⟨#[]⟩, 0, false⟩ a l.good) ((1 - a : Nat) : Int) 0) a with text := txt l.text l.revs l.revs.length, safe := l.base + (l.revs.length : Int) }
def slot2 (x y : Slt) (a : Nat) : Slt := if a = 0 then x else y
theorem opn_inv (x y : Slt) (a : Nat) (ha : a ≤ 1) {g b : Nat} {t : List (Nat × Nat)} {tx : ByteArray} (h : HdI g b t tx) (hg : g + 1 ≤ 2147483647) (r1 r2 : List Rv) (rest : List UInt8) (hok : okRs (L0 g b t tx) tx (r1 ++ r2))
    (hx : (slot2 x y a).1.data.toList = flat (SF g b t tx r1 (some r2)) ++ rest) (hz : SzI (slot2 x y (1 - a))) :
    ShI (opnS x y a (sfL g b t tx (r1 ++ r2) true (flat (SF g b t tx r1 (some r2))).length)) none g b t := by
  obtain ⟨G, hG⟩ : ∃ G, (flat (SF g b t tx r1 (some r2))).length = G := ⟨_, rfl⟩
  have hcut : ((slot2 x y a).1.extract 0 G).data.toList = flat (SF g b t tx r1 (some r2)) := by
    rw [bs_extract, hx, List.drop_zero, List.take_append_of_le_length (by omega), List.take_of_length_le (by omega)]
  have hsl : slotOf (opnS x y a (sfL g b t tx (r1 ++ r2) true (G : Nat))) a = ((slot2 x y a).1.extract 0 G, (((slot2 x y a).1.extract 0 G).size : Int)) := by
    obtain rfl | rfl : a = 0 ∨ a = 1 := by omega
    · rfl
    · rfl
  have hso : slotOf (opnS x y a (sfL g b t tx (r1 ++ r2) true (G : Nat))) (1 - a) = trimS (slot2 x y (1 - a)) 0 := by
    obtain rfl | rfl : a = 0 ∨ a = 1 := by omega
    · rfl
    · rfl
  rw [hG]
  refine ⟨⟨h, rfl, rfl, rfl, hok, rfl, rfl, rfl⟩, ha, hg, ?_, .inr ⟨rfl, ?_⟩, Int.le_refl _⟩
  · show CurI (slotOf (opnS x y a (sfL g b t tx (r1 ++ r2) true (G : Nat))) a) _ g b t _
    rw [hsl]
    refine ⟨r1, r2, r2.length, rfl, hcut, Nat.le_refl _, ?_, ?_⟩
    · show ((((slot2 x y a).1.extract 0 G).size : Nat) : Int) = _
      rw [← bs_len, hcut, List.take_length]
      rfl
    · show (b : Int) + ((r1 ++ r2).length : Int) ≤ _
      rw [List.length_append]
      omega
  · show Emp (slotOf (opnS x y a (sfL g b t tx (r1 ++ r2) true (G : Nat))) (1 - a))
    rw [hso]
    exact trim_emp hz
/-- a crash keeps what is safe, and leaves a beginning -/
theorem crash_n {x : Slt} (hz : SzI x) (k : Int) : ∃ n : Nat, x.2 ≤ (n : Int) ∧ n ≤ x.1.size ∧ crashS x k = (x.1.extract 0 n, (n : Int)) := by
  obtain ⟨h1, h2, h3⟩ := hz
  refine ⟨(x.2 + max 0 (min k ((x.1.size : Int) - x.2))).toNat, by omega, by omega, ?_⟩
  unfold crashS
  rw [Int.toNat_of_nonneg (by omega)]
theorem cut_list (s : ByteArray) (n : Nat) : (s.extract 0 n).data.toList = s.data.toList.take n := by rw [bs_extract, List.drop_zero]
section
variable {s : Sh} {m : Option Mv} {g b : Nat} {tN : List (Nat × Nat)}
theorem crash_cur (h : ShI s m g b tN) (k : Int) : ∃ (r1 r2 : List Rv) (i : Nat) (rest : List UInt8), s.log.revs = r1 ++ r2 ∧ i ≤ r2.length ∧ s.safe ≤ (b : Int) + (r1.length : Int) + (i : Int) ∧
    (crashS (slotOf s s.at_) k).1.data.toList = flat (SF g b tN s.log.text r1 (some (r2.take i))) ++ rest ∧ (gf rest).2.2.2 ≠ 0 := by
  obtain ⟨n, n1, n2, e⟩ := crash_n h.szc k
  obtain ⟨r1, r2, j0, e1, e2, e3, e4, e5⟩ := h.cur
  have h1 : ∀ r ∈ r1, oneE r = 0 := fun r hr => h.log.one r (by rw [e1]; exact List.mem_append_left _ hr)
  have h2 : ∀ r ∈ r2, oneE r = 0 := fun r hr => h.log.one r (by rw [e1]; exact List.mem_append_right _ hr)
  obtain ⟨i, rest, i1, i2, i3, i4⟩ := cut2 h.log.hd r1 r2 h1 h2 j0 n e3 (by omega)
  refine ⟨r1, r2, i, rest, e1, i2, by omega, ?_, i4⟩
  rw [e]
  show ((slotOf s s.at_).1.extract 0 n).data.toList = _
  rw [cut_list, e2, i3]
/-- frames behind a head say its generation -/
theorem opS_gen {g' b' : Nat} {t' : List (Nat × Nat)} {tx' : ByteArray} (h : HdI g' b' t' tx') (fs : List Fm) (l : Lg) (e : opS (hf g' b' t' tx' :: fs) = some l) : l.gen = (g' : Int) := by
  unfold opS at e
  split at e
  · injection e with e
    subst e
    rw [(hot_head g' b' t' tx' fs h.len h.g h.b h.t h.tx).2]
    exact (readF_same fs (L0 g' b' t' tx') tx').1
  · cases e
def OthR (s : Sh) (g b : Nat) (fs : List Fm) : Prop := (∀ l, opS fs = some l → l.gen < (g : Int)) ∨
  (∃ (k : Nat) (r1 r2 : List Rv) (i : Nat), k ≤ s.log.revs.length ∧ s.log.revs.drop k = r1 ++ r2 ∧ i ≤ r2.length ∧ fs = SF (g + 1) (b + k) (tabK s.log k) (txt s.log.text s.log.revs k) r1 (some (r2.take i)) ∧ s.safe ≤ (b : Int) + (k : Int) + (r1.length : Int) + (i : Int))
theorem crash_oth (h : ShI s m g b tN) (k : Int) : ∃ (fs : List Fm) (rest : List UInt8), (crashS (slotOf s (1 - s.at_)) k).1.data.toList = flat fs ++ rest ∧ (gf rest).2.2.2 ≠ 0 ∧ (∀ p ∈ fs, okF p) ∧ fs.length ≤ 300 ∧ OthR s g b fs := by
  obtain ⟨n, n1, n2, e⟩ := crash_n h.szo k
  have he : (crashS (slotOf s (1 - s.at_)) k).1.data.toList = (slotOf s (1 - s.at_)).1.data.toList.take n := by
    rw [e]
    exact cut_list _ _
  rw [he]
  have hlen := h.log.len
  have hempty : Emp (slotOf s (1 - s.at_)) → ∃ (fs : List Fm) (rest : List UInt8), (slotOf s (1 - s.at_)).1.data.toList.take n = flat fs ++ rest ∧ (gf rest).2.2.2 ≠ 0 ∧ (∀ p ∈ fs, okF p) ∧ fs.length ≤ 300 ∧ OthR s g b fs := fun hE =>
    ⟨[], [], by rw [List.eq_nil_of_length_eq_zero (show (slotOf s (1 - s.at_)).1.data.toList.length = 0 from hE.1)]; simp [flat], by decide, by simp, by simp, .inl (fun l e => by rw [opS_nil] at e; cases e)⟩
  have ho := h.oth
  unfold OthI at ho
  cases m with
  | none =>
    rcases ho with ⟨_, g', b', t', tx', r1, r2, a1, a2, a3, a4, a5, a6, _⟩ | ⟨_, hE⟩
    · have hok := SF_ok a1 r1 r2 a2 a3
      obtain ⟨rest, c1, c2⟩ := cnt_spec (SF g' b' t' tx' r1 r2) n hok
      refine ⟨(SF g' b' t' tx' r1 r2).take (cnt (SF g' b' t' tx' r1 r2) n), rest, by rw [a4]; exact c1, c2, fun p hp => hok p (List.mem_of_mem_take hp), by rw [List.length_take]; omega, .inl ?_⟩
      intro l el
      cases hc : cnt (SF g' b' t' tx' r1 r2) n with
      | zero => rw [hc, List.take_zero, opS_nil] at el; cases el
      | succ j =>
        rw [hc] at el
        unfold SF at el
        rw [List.take_succ_cons] at el
        rw [opS_gen a1 _ l el]
        omega
    · exact hempty hE
  | some v =>
    obtain ⟨fl, cp, wh⟩ := v
    obtain ⟨_, kk, _, hk, hx⟩ := ho
    have hd := h.log.hdK kk hk h.g1
    have hone : ∀ r ∈ s.log.revs.drop kk, oneE r = 0 := fun r hr => h.log.one r (List.mem_of_mem_drop hr)
    have hokK := h.log.okK kk hk
    rcases hx with ⟨_, _, hE⟩ | ⟨c, _, _, hc, a1, _⟩ | ⟨c, r1, r2, j0, _, _, _, e1, e2, e3, e4, e5⟩
    · exact hempty hE
    · have h1 : ∀ r ∈ (s.log.revs.drop kk).take c, oneE r = 0 := fun r hr => hone r (List.mem_of_mem_take hr)
      have hok := SF_ok hd ((s.log.revs.drop kk).take c) none h1 (fun l e => by cases e)
      obtain ⟨rest, c1, c2⟩ := cut0 hd ((s.log.revs.drop kk).take c) none h1 (fun l e => by cases e) n
      rw [a1]
      rcases c2 with c2 | ⟨j, hj, c2⟩ | ⟨l, i, e, _⟩
      · exact ⟨[], rest, c2, c1, by simp, by simp, .inl (fun l e => by rw [opS_nil] at e; cases e)⟩
      · refine ⟨_, rest, c2, c1, SF_ok hd _ none (fun r hr => h1 r (List.mem_of_mem_take hr)) (fun l e => by cases e), ?_, .inl ?_⟩
        · have hl := SF_len (g := g + 1) (b := b + kk) (t := tabK s.log kk) (tx := txt s.log.text s.log.revs kk) (((s.log.revs.drop kk).take c).take j) none
          simp only [List.length_take, List.length_drop] at hl
          omega
        · intro l e
          rw [opS_1 hd _ (okRs_take _ _ _ _ (okRs_take _ _ _ _ hokK))] at e
          cases e
      · cases e
    · have h1 : ∀ r ∈ r1, oneE r = 0 := fun r hr => hone r (by rw [e1]; exact List.mem_append_left _ hr)
      have h2 : ∀ r ∈ r2, oneE r = 0 := fun r hr => hone r (by rw [e1]; exact List.mem_append_right _ hr)
      have h2' : ∀ l, some r2 = some l → ∀ r ∈ l, oneE r = 0 := fun l e => by injection e with e; subst e; exact h2
      have hll := congrArg List.length e1
      rw [List.length_append, List.length_drop] at hll
      have hl2 : ∀ i, i ≤ r2.length → (SF (g + 1) (b + kk) (tabK s.log kk) (txt s.log.text s.log.revs kk) r1 (some (r2.take i))).length ≤ 300 := fun i hi => by
        have hl := SF_len (g := g + 1) (b := b + kk) (t := tabK s.log kk) (tx := txt s.log.text s.log.revs kk) r1 (some (r2.take i))
        simp only [List.length_take] at hl
        omega
      have ho2 : ∀ i, ∀ p ∈ SF (g + 1) (b + kk) (tabK s.log kk) (txt s.log.text s.log.revs kk) r1 (some (r2.take i)), okF p := fun i => SF_ok hd _ _ h1 (fun l e => by injection e with e; subst e; exact fun r hr => h2 r (List.mem_of_mem_take hr))
      rw [e2]
      rcases e4 with ⟨e4, rfl⟩ | e4
      case inr =>
        obtain ⟨i, rest, i1, i2, i3, i4⟩ := cut2 hd r1 r2 h1 h2 j0 n e3 (by omega)
        exact ⟨_, rest, i3, i4, ho2 i, hl2 i i2, .inr ⟨kk, r1, r2, i, hk, e1, i2, rfl, by omega⟩⟩
      obtain ⟨rest, c1, c2⟩ := cut0 hd r1 (some r2) h1 h2' n
      rcases c2 with c2 | ⟨j, hj, c2⟩ | ⟨l, i, e, hi, c2⟩
      · exact ⟨[], rest, c2, c1, by simp, by simp, .inl (fun l e => by rw [opS_nil] at e; cases e)⟩
      · refine ⟨_, rest, c2, c1, SF_ok hd _ none (fun r hr => h1 r (List.mem_of_mem_take hr)) (fun l e => by cases e), ?_, .inl ?_⟩
        · have hl := SF_len (g := g + 1) (b := b + kk) (t := tabK s.log kk) (tx := txt s.log.text s.log.revs kk) (r1.take j) none
          simp only [List.length_take] at hl
          omega
        · intro l e
          rw [e1] at hokK
          rw [opS_1 hd _ (okRs_take _ _ _ _ ((okRs_app _ _ _ _).1 hokK).1)] at e
          cases e
      · injection e with e
        subst e
        exact ⟨_, rest, c2, c1, ho2 i, hl2 i hi, .inr ⟨kk, r1, r2, i, hk, e1, hi, rfl, by omega⟩⟩
end
/-- the slot that Open takes -/
def pickS (o0 o1 : Option Lg) : Option (Nat × Lg) :=
  match o0, o1 with
  | none, none => none
  | some l, none => some (0, l)
  | none, some l => some (1, l)
  | some l, some l' => if l.gen < l'.gen then some (1, l') else some (0, l)
theorem pick_one {a : Nat} (ha : a ≤ 1) {oc oo : Option Lg} {l : Lg} (hc : oc = some l) (ho : ∀ l', oo = some l' → l'.gen < l.gen) : pickS (if a = 0 then oc else oo) (if a = 0 then oo else oc) = some (a, l) := by
  subst hc
  obtain rfl | rfl : a = 0 ∨ a = 1 := by omega
  · cases oo with
    | none => rfl
    | some l' =>
      have := ho l' rfl
      show (if l.gen < l'.gen then some (1, l') else some (0, l)) = _
      rw [if_neg (by omega)]
  · cases oo with
    | none => rfl
    | some l' =>
      have := ho l' rfl
      show (if l'.gen < l.gen then some (1, l) else some (0, l')) = _
      rw [if_pos this]
/-- what is opened is a beginning of what there was, from a floor on, and has all that was safe -/
structure OpenR (s x : Sh) (k j : Nat) : Prop where
  kj : k + j ≤ s.log.revs.length
  base : x.log.base = s.log.base + (k : Int)
  text : x.log.text = txt s.log.text s.log.revs k
  revs : x.log.revs = (s.log.revs.drop k).take j
  tab : x.log.table = tblF s.log.base s.log.first (s.log.revs.take (k + j))
  low : s.safe ≤ s.log.base + (k : Int) + (j : Int)
  safe : x.safe = x.log.base + (x.log.revs.length : Int)
  old : x.old = false
section
variable {s : Sh} {m : Option Mv} {g b : Nat} {tN : List (Nat × Nat)}
theorem take_mid {α : Type} (r1 r2 : List α) (i : Nat) : (r1 ++ r2).take (r1.length + i) = r1 ++ r2.take i := by
  rw [List.take_append, List.take_of_length_le (by omega), Nat.add_sub_cancel_left]
theorem crash_sz {x : Slt} (hz : SzI x) (k : Int) : SzI (crashS x k) := by
  obtain ⟨n, n1, n2, e⟩ := crash_n hz k
  have h1 : (x.1.extract 0 n).size = n := by rw [← bs_len, cut_list, List.length_take, bs_len]; omega
  rw [e]
  obtain ⟨z1, z2, z3⟩ := hz
  refine ⟨?_, ?_, ?_⟩
  · show (x.1.extract 0 n).size ≤ _; omega
  · show (0 : Int) ≤ (n : Int); omega
  · show (n : Int) ≤ ((x.1.extract 0 n).size : Int); omega
theorem open_law (h : ShI s m g b tN) (hg2 : g + 2 ≤ 2147483647) (ka kb : Int) : ∃ (fs0 : List Fm) (rest0 : List UInt8) (fs1 : List Fm) (rest1 : List UInt8) (a : Nat) (l : Lg),
    (crashS s.d0 ka).1.data.toList = flat fs0 ++ rest0 ∧ (gf rest0).2.2.2 ≠ 0 ∧ (∀ p ∈ fs0, okF p) ∧ fs0.length ≤ 300 ∧ (crashS s.d1 kb).1.data.toList = flat fs1 ++ rest1 ∧ (gf rest1).2.2.2 ≠ 0 ∧ (∀ p ∈ fs1, okF p) ∧ fs1.length ≤ 300 ∧
    pickS (opS fs0) (opS fs1) = some (a, l) ∧ a ≤ 1 ∧ (∃ g' b' t', ShI (opnS (crashS s.d0 ka) (crashS s.d1 kb) a l) none g' b' t') ∧ ∃ k j, OpenR s (opnS (crashS s.d0 ka) (crashS s.d1 kb) a l) k j := by
  have ha := h.at1
  obtain ⟨kc, hkc⟩ : ∃ kc, kc = if s.at_ = 0 then ka else kb := ⟨_, rfl⟩
  obtain ⟨ko, hko⟩ : ∃ ko, ko = if s.at_ = 0 then kb else ka := ⟨_, rfl⟩
  obtain ⟨r1, r2, i, restc, c1, c2, c3, c4, c5⟩ := crash_cur h kc
  obtain ⟨fo, resto, o1, o2, o3, o4, o5⟩ := crash_oth h ko
  have hszc := crash_sz h.szc kc
  have hszo := crash_sz h.szo ko
  have hx : slot2 (crashS s.d0 ka) (crashS s.d1 kb) s.at_ = crashS (slotOf s s.at_) kc := by
    obtain e | e : s.at_ = 0 ∨ s.at_ = 1 := by omega
    · rw [hkc, e]; rfl
    · rw [hkc, e]; rfl
  have hy : slot2 (crashS s.d0 ka) (crashS s.d1 kb) (1 - s.at_) = crashS (slotOf s (1 - s.at_)) ko := by
    obtain e | e : s.at_ = 0 ∨ s.at_ = 1 := by omega
    · rw [hko, e]; rfl
    · rw [hko, e]; rfl
  have hokc : okRs (L0 g b tN s.log.text) s.log.text (r1 ++ r2.take i) := by
    have := h.log.ok
    rw [c1] at this
    rw [← take_mid]
    exact okRs_take _ _ _ _ this
  have honec : ∀ r ∈ s.log.revs, oneE r = 0 := h.log.one
  have hokF : ∀ p ∈ SF g b tN s.log.text r1 (some (r2.take i)), okF p := SF_ok h.log.hd _ _ (fun r hr => honec r (by rw [c1]; exact List.mem_append_left _ hr)) (fun l e r hr => by injection e with e; subst e; exact honec r (by rw [c1]; exact List.mem_append_right _ (List.mem_of_mem_take hr)))
  have hlen := h.log.len
  have hll := congrArg List.length c1
  rw [List.length_append] at hll
  have hlF : (SF g b tN s.log.text r1 (some (r2.take i))).length ≤ 300 := by
    have hl := SF_len (g := g) (b := b) (t := tN) (tx := s.log.text) r1 (some (r2.take i))
    simp only [List.length_take] at hl
    omega
  have hopc := opS_2 h.log.hd r1 (r2.take i) hokc
  obtain ⟨lc, hlc⟩ : ∃ lc, sfL g b tN s.log.text (r1 ++ r2.take i) true (flat (SF g b tN s.log.text r1 (some (r2.take i)))).length = lc := ⟨_, rfl⟩
  have hlg : lc.gen = (g : Int) := by rw [← hlc]; rfl
  -- the frames of both slots, in their order
  have hfr : ∀ (a : Nat) (l : Lg), a ≤ 1 → pickS (if s.at_ = 0 then opS (SF g b tN s.log.text r1 (some (r2.take i))) else opS fo) (if s.at_ = 0 then opS fo else opS (SF g b tN s.log.text r1 (some (r2.take i)))) = some (a, l) →
      (∃ g' b' t', ShI (opnS (crashS s.d0 ka) (crashS s.d1 kb) a l) none g' b' t') → (∃ k j, OpenR s (opnS (crashS s.d0 ka) (crashS s.d1 kb) a l) k j) →
      ∃ (fs0 : List Fm) (rest0 : List UInt8) (fs1 : List Fm) (rest1 : List UInt8) (a : Nat) (l : Lg),
    (crashS s.d0 ka).1.data.toList = flat fs0 ++ rest0 ∧ (gf rest0).2.2.2 ≠ 0 ∧ (∀ p ∈ fs0, okF p) ∧ fs0.length ≤ 300 ∧ (crashS s.d1 kb).1.data.toList = flat fs1 ++ rest1 ∧ (gf rest1).2.2.2 ≠ 0 ∧ (∀ p ∈ fs1, okF p) ∧ fs1.length ≤ 300 ∧
    pickS (opS fs0) (opS fs1) = some (a, l) ∧ a ≤ 1 ∧ (∃ g' b' t', ShI (opnS (crashS s.d0 ka) (crashS s.d1 kb) a l) none g' b' t') ∧ ∃ k j, OpenR s (opnS (crashS s.d0 ka) (crashS s.d1 kb) a l) k j := by
    intro a l ha1 hp hI hR
    obtain e | e : s.at_ = 0 ∨ s.at_ = 1 := by omega
    · rw [if_pos e, if_pos e] at hp
      rw [← hx, e] at c4
      rw [← hy, e] at o1
      exact ⟨_, restc, fo, resto, a, l, c4, c5, hokF, hlF, o1, o2, o3, o4, hp, ha1, hI, hR⟩
    · rw [if_neg (by omega), if_neg (by omega)] at hp
      rw [← hx, e] at c4
      rw [← hy, e] at o1
      exact ⟨fo, resto, _, restc, a, l, o1, o2, o3, o4, c4, c5, hokF, hlF, hp, ha1, hI, hR⟩
  rcases o5 with o5 | ⟨k, q1, q2, j, hk, d1, d2, d3, d4⟩
  · refine hfr s.at_ lc ha (pick_one ha (by rw [hopc, hlc]) (fun l' e => by rw [hlg]; exact o5 l' e)) ?_ ?_
    · rw [← hlc]
      exact ⟨g, b, tN, opn_inv _ _ _ ha h.log.hd h.g1 r1 (r2.take i) restc hokc (by rw [hx]; exact c4) (by rw [hy]; exact hszo)⟩
    · rw [← hlc]
      refine ⟨0, r1.length + i, by omega, ?_, ?_, ?_, ?_, ?_, rfl, rfl⟩
      · show (b : Int) = _
        rw [h.log.eb]; simp
      · show s.log.text = _
        simp [txt]
      · show r1 ++ r2.take i = _
        rw [List.drop_zero, c1, take_mid]
      · show tblF b (tbN tN) (r1 ++ r2.take i) = _
        rw [h.log.eb, h.log.ef, Nat.zero_add, c1, take_mid]
      · rw [h.log.eb]; omega
  · have hd := h.log.hdK k hk h.g1
    have hokK := h.log.okK k hk
    rw [d1] at hokK
    have hokj : okRs (L0 (g + 1) (b + k) (tabK s.log k) (txt s.log.text s.log.revs k)) (txt s.log.text s.log.revs k) (q1 ++ q2.take j) := by
      rw [← take_mid]
      exact okRs_take _ _ _ _ hokK
    have hop := opS_2 hd q1 (q2.take j) hokj
    rw [← d3] at hop
    have hdl := congrArg List.length d1
    rw [List.length_append, List.length_drop] at hdl
    have hpk := pick_one (a := 1 - s.at_) (by omega) hop (oo := opS (SF g b tN s.log.text r1 (some (r2.take i)))) (fun l' e => by
      rw [hopc, hlc] at e
      injection e with e
      subst e
      rw [hlg]
      show (g : Int) < ((g + 1 : Nat) : Int)
      omega)
    refine hfr (1 - s.at_) (sfL (g + 1) (b + k) (tabK s.log k) (txt s.log.text s.log.revs k) (q1 ++ q2.take j) true (flat fo).length) (by omega) ?_ ?_ ?_
    · rw [← hpk]
      obtain e | e : s.at_ = 0 ∨ s.at_ = 1 := by omega
      · rw [e]; rfl
      · rw [e]; rfl
    · rw [d3]
      refine ⟨g + 1, b + k, _, opn_inv _ _ _ (by omega) hd (by omega) q1 (q2.take j) resto hokj (by rw [hy, ← d3]; exact o1) ?_⟩
      rw [show 1 - (1 - s.at_) = s.at_ by omega, hx]
      exact hszc
    · refine ⟨k, q1.length + j, by omega, ?_, rfl, ?_, ?_, ?_, rfl, rfl⟩
      · show ((b + k : Nat) : Int) = _
        rw [h.log.eb]; omega
      · show q1 ++ q2.take j = _
        rw [d1, take_mid]
      · show tblF ((b + k : Nat) : Int) (tbN (tabK s.log k)) (q1 ++ q2.take j) = _
        have hlk : (s.log.revs.take k).length = k := by rw [List.length_take]; omega
        have ht : s.log.revs.take (k + (q1.length + j)) = s.log.revs.take k ++ (s.log.revs.drop k).take (q1.length + j) := List.take_add
        rw [h.log.tab k hk, ← take_mid, ← d1, ht, tblF_app, hlk, h.log.eb]
        congr 1
      · rw [h.log.eb]; omega
end
/-! what is safe as a whole -/
theorem ext_all (s : ByteArray) (n : Nat) (h : s.size ≤ n) : s.extract 0 n = s := bs_ext (by rw [cut_list, List.take_of_length_le (by rw [bs_len]; exact h)])
theorem crash_same {x : Slt} (h : x.2 = (x.1.size : Int)) (k : Int) : crashS x k = x := by
  obtain ⟨a, n⟩ := x
  simp only at h
  subst h
  unfold crashS
  have e : ((a.size : Int) + max 0 (min k ((a.size : Int) - (a.size : Int)))) = (a.size : Int) := by omega
  simp only [e]
  rw [show ((a.size : Int)).toNat = a.size by omega, ext_all _ _ (Nat.le_refl _)]
theorem trim_same {x : Slt} (h : Emp x) : trimS x 0 = x := by
  obtain ⟨a, n⟩ := x
  obtain ⟨h1, h2⟩ := h
  simp only at h1 h2
  subst h2
  unfold trimS
  simp only
  rw [ext_all a (0 : Int).toNat (by omega)]
  rfl
section
variable {s : Sh} {g b : Nat} {tN : List (Nat × Nat)}
theorem open_same (h : ShI s none g b tN) (ho : s.old = false) (hf : (slotOf s s.at_).2 = ((slotOf s s.at_).1.size : Int)) (ka kb : Int) : ∃ (fs0 : List Fm) (rest0 : List UInt8) (fs1 : List Fm) (rest1 : List UInt8) (a : Nat) (l : Lg),
    (crashS s.d0 ka).1.data.toList = flat fs0 ++ rest0 ∧ (gf rest0).2.2.2 ≠ 0 ∧ (∀ p ∈ fs0, okF p) ∧ fs0.length ≤ 300 ∧ (crashS s.d1 kb).1.data.toList = flat fs1 ++ rest1 ∧ (gf rest1).2.2.2 ≠ 0 ∧ (∀ p ∈ fs1, okF p) ∧ fs1.length ≤ 300 ∧
    pickS (opS fs0) (opS fs1) = some (a, l) ∧ a ≤ 1 ∧ (∃ g' b' t', ShI (opnS (crashS s.d0 ka) (crashS s.d1 kb) a l) none g' b' t') ∧
    (opnS (crashS s.d0 ka) (crashS s.d1 kb) a l).d0 = s.d0 ∧ (opnS (crashS s.d0 ka) (crashS s.d1 kb) a l).d1 = s.d1 ∧ l.base = s.log.base ∧ l.revs = s.log.revs := by
  have ha := h.at1
  have hE : Emp (slotOf s (1 - s.at_)) := by
    rcases h.oth with ⟨e, _⟩ | ⟨_, e⟩
    · rw [ho] at e; cases e
    · exact e
  have hfe : (slotOf s (1 - s.at_)).2 = ((slotOf s (1 - s.at_)).1.size : Int) := by rw [hE.1, hE.2]; rfl
  obtain ⟨r1, r2, j0, e1, e2, e3, e4, e5⟩ := h.cur
  have hlen := h.log.len
  have hll := congrArg List.length e1
  rw [List.length_append] at hll
  have hok := h.log.ok
  rw [e1] at hok
  have hone := h.log.one
  have hokF : ∀ p ∈ SF g b tN s.log.text r1 (some r2), okF p := SF_ok h.log.hd _ _ (fun r hr => hone r (by rw [e1]; exact List.mem_append_left _ hr)) (fun l e r hr => by injection e with e; subst e; exact hone r (by rw [e1]; exact List.mem_append_right _ hr))
  have hlF : (SF g b tN s.log.text r1 (some r2)).length ≤ 300 := by
    have hl := SF_len (g := g) (b := b) (t := tN) (tx := s.log.text) r1 (some r2)
    simp only at hl
    omega
  have hop := opS_2 h.log.hd r1 r2 hok
  have hemp : (slotOf s (1 - s.at_)).1.data.toList = flat [] ++ [] := by rw [List.eq_nil_of_length_eq_zero (show (slotOf s (1 - s.at_)).1.data.toList.length = 0 from hE.1)]; rfl
  have hpk := pick_one ha hop (oo := opS []) (fun l' e => by rw [opS_nil] at e; cases e)
  have hcl : (slotOf s s.at_).1.data.toList = flat (SF g b tN s.log.text r1 (some r2)) ++ [] := by rw [e2, List.append_nil]
  have hG : (slotOf s s.at_).1.size = (flat (SF g b tN s.log.text r1 (some r2))).length := bs_sz e2
  have htr : (slotOf s s.at_).1.extract 0 (flat (SF g b tN s.log.text r1 (some r2))).length = (slotOf s s.at_).1 := ext_all _ _ (by omega)
  have hte := trim_same hE
  obtain e | e : s.at_ = 0 ∨ s.at_ = 1 := by omega
  · rw [e] at hpk hcl hemp hG htr hte hf hfe
    have k0 : crashS s.d0 ka = s.d0 := crash_same hf ka
    have k1 : crashS s.d1 kb = s.d1 := crash_same hfe kb
    rw [k0, k1]
    have hI := opn_inv s.d0 s.d1 0 (by omega) h.log.hd h.g1 r1 r2 [] hok hcl (by have := h.szo; rw [e] at this; exact this)
    refine ⟨_, [], [], [], 0, _, hcl, by decide, hokF, hlF, hemp, by decide, by simp, by simp, hpk, by omega, ⟨g, b, tN, hI⟩, ?_, ?_, h.log.eb.symm, e1.symm⟩
    · show ((s.d0.1.extract 0 (flat (SF g b tN s.log.text r1 (some r2))).length, ((s.d0.1.extract 0 (flat (SF g b tN s.log.text r1 (some r2))).length).size : Int)) : Slt) = s.d0
      have htr' : s.d0.1.extract 0 (flat (SF g b tN s.log.text r1 (some r2))).length = s.d0.1 := htr
      have hf' : s.d0.2 = (s.d0.1.size : Int) := hf
      rw [htr', ← hf']
    · exact hte
  · rw [e] at hpk hcl hemp hG htr hte hf hfe
    have k0 : crashS s.d0 ka = s.d0 := crash_same hfe ka
    have k1 : crashS s.d1 kb = s.d1 := crash_same hf kb
    rw [k0, k1]
    have hI := opn_inv s.d0 s.d1 1 (by omega) h.log.hd h.g1 r1 r2 [] hok hcl (by have := h.szo; rw [e] at this; exact this)
    refine ⟨[], [], _, [], 1, _, hemp, by decide, by simp, by simp, hcl, by decide, hokF, hlF, hpk, by omega, ⟨g, b, tN, hI⟩, ?_, ?_, h.log.eb.symm, e1.symm⟩
    · exact hte
    · show ((s.d1.1.extract 0 (flat (SF g b tN s.log.text r1 (some r2))).length, ((s.d1.1.extract 0 (flat (SF g b tN s.log.text r1 (some r2))).length).size : Int)) : Slt) = s.d1
      have htr' : s.d1.1.extract 0 (flat (SF g b tN s.log.text r1 (some r2))).length = s.d1.1 := htr
      have hf' : s.d1.2 = (s.d1.1.size : Int) := hf
      rw [htr', ← hf']
end
end Go.Proofs.Ytmnnaemcjmiplaa
namespace Go.Proofs.Ytmnnaemcjmiplaa
open Go.ChangeShapes Go.WideShapes Go.RowKit
set_option linter.unusedVariables false
set_option linter.unusedSimpArgs false
set_option maxRecDepth 100000
set_option maxHeartbeats 4000000

/-- what is there already is told again -/
theorem again_of {s : Sh} {bs who sq : Int} {d : List Pt} {n : Int} (hw : ¬ (who < 0 ∨ 7 < who ∨ sq < 0 ∨ 2147483647 < sq)) (hc : chk d = 0) (hp : 0 < sq) (hT : subT s who = (sq, n)) : subE s bs who sq d = 0 ∧ subN s bs who sq d = n ∧ subS s none bs who sq d = s := by
  have hA : subAgain s who sq d := ⟨hw, hc, hp, by rw [hT]⟩
  have hE : subE s bs who sq d = 0 := by unfold subE; rw [if_neg hw, if_neg (by simp [hc]), if_pos ⟨hp, by rw [hT]⟩]
  refine ⟨hE, ?_, ?_⟩
  · unfold subN; rw [if_neg (by simp [hE]), if_pos hA, hT]
  · unfold subS; rw [if_pos (.inr hA)]
theorem sub_once {s : Sh} {bs who sq : Int} {d : List Pt} (h8 : s.log.table.length = 8) (h0 : 0 ≤ (subT s who).1) (hE : subE s bs who sq d = 0) :
    ¬ (who < 0 ∨ 7 < who ∨ sq < 0 ∨ 2147483647 < sq) ∧ chk d = 0 ∧ 0 < sq ∧ subT (subS s none bs who sq d) who = (sq, subN s bs who sq d) := by
  by_cases hA : subAgain s who sq d
  · have hS : subS s none bs who sq d = s := by unfold subS; rw [if_pos (.inr hA)]
    have hN : subN s bs who sq d = (subT s who).2 := by unfold subN; rw [if_neg (by simp [hE]), if_pos hA]
    refine ⟨hA.1, hA.2.1, hA.2.2.1, ?_⟩
    rw [hS, hN, hA.2.2.2]
  · have hE' := hE
    unfold subE at hE'
    split at hE'
    · cases hE'
    · rename_i hw
      split at hE'
      · exact absurd hE' (by assumption)
      · split at hE'
        · exact absurd ⟨by assumption, by omega, by omega, by omega⟩ hA
        · split at hE'
          · cases hE'
          · split at hE'
            · exact absurd hE' (by assumption)
            · split at hE'
              · cases hE'
              · split at hE'
                · exact absurd hE' (by assumption)
                · rename_i hc _ _ _ _ _
                  have hS : subS s none bs who sq d = addS s (who, sq, mtL d (s.log.revs.drop (bs - s.log.base).toNat)) := by
                    unfold subS
                    rw [if_neg (by rintro (h | h); exact h hE; exact hA h)]
                    unfold addG
                    rw [if_pos hE', if_neg (by decide)]
                  have hN : subN s bs who sq d = s.log.base + (s.log.revs.length + 1 : Nat) := by unfold subN; rw [if_neg (by simp [hE]), if_neg hA]
                  refine ⟨hw, by simpa using hc, by omega, ?_⟩
                  rw [hS, hN]
                  unfold subT
                  show (s.log.table.set who.toNat (sq, s.log.base + (s.log.revs.length + 1 : Nat))).getD who.toNat (0, 0) = _
                  rw [List.getD_eq_getElem?_getD, List.getElem?_set_self (by rw [h8]; omega)]
                  rfl
/-- behind a sync all is safe: what is opened has the whole table, and the same head -/
theorem OpenR.all {s x : Sh} {k j : Nat} {g b : Nat} {tN : List (Nat × Nat)} {m : Option Mv} (h : OpenR s x k j) (hI : ShI s m g b tN) (hs : s.safe = s.log.base + (s.log.revs.length : Int)) : x.log.table = s.log.table ∧ x.log.base + (x.log.revs.length : Int) = s.log.base + (s.log.revs.length : Int) := by
  have h1 := h.kj
  have h2 := h.low
  have e : k + j = s.log.revs.length := by omega
  refine ⟨?_, ?_⟩
  · rw [h.tab, e, List.take_length, hI.log.tb, hI.log.eb, hI.log.ef]
  · rw [h.revs, h.base, List.length_take, List.length_drop]
    omega
end Go.Proofs.Ytmnnaemcjmiplaa
