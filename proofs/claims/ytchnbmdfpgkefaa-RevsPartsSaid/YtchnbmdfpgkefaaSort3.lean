/- slices.Sort of three ints. -/
import Derived.Test.YtchnbmdfpgkefaaBase
namespace Go.Proofs.Ytchnbmdfpgkefaa
open Go.ChangeShapes Go.WideShapes Go.RowKit
set_option linter.unusedVariables false
set_option linter.unusedSimpArgs false
set_option maxRecDepth 100000
set_option maxHeartbeats 4000000

theorem quiet_left {P : Program} {f : FuncId} {args : Array Value} {w : World} {n : Nat} {v : Value}
    (h : Calls P f args (w.drewN n) fun e w' => e = .returned v ∧ w.drewN n = w') : Calls P f args (w.drewN n) fun e w'' => e = .returned v ∧ ∃ m, w'' = w.drewN m :=
  h.mono fun _ _ ⟨he, hm⟩ => ⟨he, n, hm.symm⟩
theorem below_dr {B : Nat} {a w : World} (h : Below B a w) (n : Nat) : Below B a (w.drewN n) := ⟨h.os, h.tape, h.output, h.size, h.block⟩
section
variable {w W : World} {g : Nat} {a b c u v : Value}
theorem sw10 (h : Blk W g 3 #[a, b, c]) (hb : Below g w W) : Blk ((W.setCell ⟨g, 1, none⟩ u).setCell ⟨g, 0, none⟩ v) g 3 #[v, u, c] ∧ Below g w ((W.setCell ⟨g, 1, none⟩ u).setCell ⟨g, 0, none⟩ v) :=
  ⟨(h.set_ 1 u).set_ 0 v, (hb.setCell (p := ⟨g, 1, none⟩) (Nat.le_refl g) u).setCell (p := ⟨g, 0, none⟩) (Nat.le_refl g) v⟩
theorem sw01 (h : Blk W g 3 #[a, b, c]) (hb : Below g w W) : Blk ((W.setCell ⟨g, 0, none⟩ v).setCell ⟨g, 1, none⟩ u) g 3 #[v, u, c] ∧ Below g w ((W.setCell ⟨g, 0, none⟩ v).setCell ⟨g, 1, none⟩ u) :=
  ⟨(h.set_ 0 v).set_ 1 u, (hb.setCell (p := ⟨g, 0, none⟩) (Nat.le_refl g) v).setCell (p := ⟨g, 1, none⟩) (Nat.le_refl g) u⟩
theorem sw21 (h : Blk W g 3 #[a, b, c]) (hb : Below g w W) : Blk ((W.setCell ⟨g, 2, none⟩ u).setCell ⟨g, 1, none⟩ v) g 3 #[a, v, u] ∧ Below g w ((W.setCell ⟨g, 2, none⟩ u).setCell ⟨g, 1, none⟩ v) :=
  ⟨(h.set_ 2 u).set_ 1 v, (hb.setCell (p := ⟨g, 2, none⟩) (Nat.le_refl g) u).setCell (p := ⟨g, 1, none⟩) (Nat.le_refl g) v⟩
theorem sw12 (h : Blk W g 3 #[a, b, c]) (hb : Below g w W) : Blk ((W.setCell ⟨g, 1, none⟩ v).setCell ⟨g, 2, none⟩ u) g 3 #[a, v, u] ∧ Below g w ((W.setCell ⟨g, 1, none⟩ v).setCell ⟨g, 2, none⟩ u) :=
  ⟨(h.set_ 1 v).set_ 2 u, (hb.setCell (p := ⟨g, 1, none⟩) (Nat.le_refl g) v).setCell (p := ⟨g, 2, none⟩) (Nat.le_refl g) u⟩
end
theorem isnan_any (x : Int) (w : World) : Calls Try.prog 121 #[.int .i64 x] w fun e w' => e = .returned (.bool false) ∧ w = w' := by
  go_enter Try.func121, Try.ntmps121
  go_wp2_with fail
  go_ret
  exact ⟨rfl, rfl⟩
theorem less_any (x y : Int) (b : Bool) (hb : decide (x < y) = b) (w : World) : Calls Try.prog 103 #[.int .i64 x, .int .i64 y] w fun e w' => e = .returned (.bool b) ∧ w = w' := by
  go_enter Try.func103, Try.ntmps103
  go_wp2_with fail
  refine (isnan_any x _).mono ?_
  rintro e w1 ⟨rfl, rfl⟩
  go_wp2_with fail
  go_ret
  exact ⟨rfl, rfl⟩
theorem len3_any (w : World) : Calls Try.prog 72 #[.int .u64 3] w fun e w' => (∃ z : Int, e = .returned (.int .i64 z)) ∧ w = w' := by
  have h64 : Calls Try.prog 107 #[.int .u64 3] w fun e w' => (∃ z : Int, e = .returned (.int .i64 z)) ∧ w = w' := by
    go_enter Try.func107, Try.ntmps107
    go_wp2_with fail
    go_ret
    exact ⟨⟨_, rfl⟩, rfl⟩
  have H := Lib.hid h64
  clear h64
  go_enter Try.func72, Try.ntmps72
  go_wp2_with fail
  refine H.out.mono ?_
  rintro e w1 ⟨⟨z, rfl⟩, rfl⟩
  go_wp2_with fail
  go_ret
  exact ⟨⟨z, rfl⟩, rfl⟩
theorem isort3 (g : Nat) (a b c : Int) (w : World) (h : Blk w g 3 #[.int .i64 a, .int .i64 b, .int .i64 c]) (N : Int) (ha : 0 ≤ a ∧ a ≤ N) (hb : 0 ≤ b ∧ b ≤ N) (hc : 0 ≤ c ∧ c ≤ N) :
    Calls Try.prog 97 #[.slice (some ⟨g, 0, none⟩) 3 3, .int .i64 0, .int .i64 3] w fun e w' => e = .returned (.tuple #[]) ∧ ∃ p q r : Int, 0 ≤ p ∧ p ≤ q ∧ q ≤ r ∧ r ≤ N ∧ Blk w' g 3 #[.int .i64 p, .int .i64 q, .int .i64 r] ∧ Below g w w' := by
  have H := Lib.hid h
  clear h
  go_enter Try.func97, Try.ntmps97
  go_wp2_with fail
  go_loopw [6, 7] (fun iv jv wr => ∃ x y z : Int, (iv = .int .i64 1 ∨ (iv = .int .i64 2 ∧ x ≤ y) ∨ (iv = .int .i64 3 ∧ x ≤ y ∧ y ≤ z)) ∧ (0 ≤ x ∧ x ≤ N) ∧ (0 ≤ y ∧ y ≤ N) ∧ (0 ≤ z ∧ z ≤ N) ∧ Hid (Blk wr g 3 #[.int .i64 x, .int .i64 y, .int .i64 z]) ∧ Below g w wr) (fun iv _ _ => 3 - (intOf iv).toNat)
  case atStart => exact ⟨a, b, c, .inl rfl, ha, hb, hc, H, Below.refl _ _⟩
  case round =>
    obtain ⟨x, y, z, hi, hx, hy, hz, hk, hbw⟩ := hrel
    rcases hi with rfl | ⟨rfl, hxy⟩ | ⟨rfl, hxy, hyz⟩
    · go_wp2_with fail
      go_loopw [7] (fun jv wr2 => ∃ x y : Int, (jv = .int .i64 1 ∨ (jv = .int .i64 0 ∧ x ≤ y)) ∧ (0 ≤ x ∧ x ≤ N) ∧ (0 ≤ y ∧ y ≤ N) ∧ Hid (Blk wr2 g 3 #[.int .i64 x, .int .i64 y, .int .i64 z]) ∧ Below g w wr2) (fun jv _ => (intOf jv).toNat)
      case atStart => exact ⟨x, y, .inl rfl, hx, hy, hk, hbw⟩
      case round =>
        obtain ⟨x2, y2, hj, hx2, hy2, hk2, hbw2⟩ := hrel
        have c0 := hk2.out.cell 0
        have c1 := hk2.out.cell 1
        have c2 := hk2.out.cell 2
        have f0 := hk2.out.frozen 0
        have f1 := hk2.out.frozen 1
        have f2 := hk2.out.frozen 2
        have lg := hk2.out.lt
        have hw0 : IntKind.i64.wrap 0 = 0 := by decide
        have hw1 : IntKind.i64.wrap 1 = 1 := by decide
        have hw2 : IntKind.i64.wrap 2 = 2 := by decide
        rcases hj with rfl | ⟨rfl, hxy⟩
        · by_cases hlt : y2 < x2
          · have hb : decide (y2 < x2) = true := by simpa using hlt
            go_wp2_with fail
            go_quiet ((go_at_call 103; exact quiet_left (less_any y2 x2 true hb _)))
            go_wp2_with fail
            go_region
            all_goals
              go_wp2_with fail
              go_roundw
              case rel =>
                have HK := fun n => Blk.drewN hk2.out n
                have HB := fun n => below_dr hbw2 n
                first
                  | exact ⟨y2, x2, .inr ⟨rfl, by omega⟩, hy2, hx2, Lib.hid (sw10 (HK _) (HB _)).1, (sw10 (HK _) (HB _)).2⟩
                  | exact ⟨y2, x2, .inr ⟨rfl, by omega⟩, hy2, hx2, Lib.hid (sw01 (HK _) (HB _)).1, (sw01 (HK _) (HB _)).2⟩
              case measure => simp [intOf]
          · have hb : decide (y2 < x2) = false := by simpa using hlt
            go_wp2_with fail
            go_quiet ((go_at_call 103; exact quiet_left (less_any y2 x2 false hb _)))
            go_wp2_with fail
            go_roundw
            case rel => exact ⟨x2, y2, z, .inr (.inl ⟨rfl, by omega⟩), hx2, hy2, hz, Lib.hid (Blk.drewN hk2.out _), below_dr hbw2 _⟩
            case measure => simp [intOf]
        · go_wp2_with fail
          go_quiet (fail)
          go_wp2_with fail
          go_roundw
          case rel => exact ⟨x2, y2, z, .inr (.inl ⟨rfl, hxy⟩), hx2, hy2, hz, Lib.hid (Blk.drewN hk2.out _), below_dr hbw2 _⟩
          case measure => simp [intOf]
    · go_wp2_with fail
      go_loopw [7] (fun jv wr2 => ∃ x y z : Int, ((jv = .int .i64 2 ∧ x ≤ y) ∨ (jv = .int .i64 1 ∧ x ≤ z ∧ y ≤ z) ∨ (jv = .int .i64 0 ∧ x ≤ y ∧ y ≤ z)) ∧ (0 ≤ x ∧ x ≤ N) ∧ (0 ≤ y ∧ y ≤ N) ∧ (0 ≤ z ∧ z ≤ N) ∧ Hid (Blk wr2 g 3 #[.int .i64 x, .int .i64 y, .int .i64 z]) ∧ Below g w wr2) (fun jv _ => (intOf jv).toNat)
      case atStart => exact ⟨x, y, z, .inl ⟨rfl, hxy⟩, hx, hy, hz, hk, hbw⟩
      case round =>
        obtain ⟨x2, y2, z2, hj, hx2, hy2, hz2, hk2, hbw2⟩ := hrel
        have c0 := hk2.out.cell 0
        have c1 := hk2.out.cell 1
        have c2 := hk2.out.cell 2
        have f0 := hk2.out.frozen 0
        have f1 := hk2.out.frozen 1
        have f2 := hk2.out.frozen 2
        have lg := hk2.out.lt
        have hw0 : IntKind.i64.wrap 0 = 0 := by decide
        have hw1 : IntKind.i64.wrap 1 = 1 := by decide
        have hw2 : IntKind.i64.wrap 2 = 2 := by decide
        rcases hj with ⟨rfl, hxy2⟩ | ⟨rfl, hxz, hyz⟩ | ⟨rfl, hxy2, hyz⟩
        · by_cases hlt : z2 < y2
          · have hb : decide (z2 < y2) = true := by simpa using hlt
            go_wp2_with fail
            go_quiet ((go_at_call 103; exact quiet_left (less_any z2 y2 true hb _)))
            go_wp2_with fail
            go_region
            all_goals
              go_wp2_with fail
              go_roundw
              case rel =>
                have HK := fun n => Blk.drewN hk2.out n
                have HB := fun n => below_dr hbw2 n
                first
                  | exact ⟨x2, z2, y2, .inr (.inl ⟨rfl, by omega, by omega⟩), hx2, hz2, hy2, Lib.hid (sw21 (HK _) (HB _)).1, (sw21 (HK _) (HB _)).2⟩
                  | exact ⟨x2, z2, y2, .inr (.inl ⟨rfl, by omega, by omega⟩), hx2, hz2, hy2, Lib.hid (sw12 (HK _) (HB _)).1, (sw12 (HK _) (HB _)).2⟩
              case measure => simp [intOf]
          · have hb : decide (z2 < y2) = false := by simpa using hlt
            go_wp2_with fail
            go_quiet ((go_at_call 103; exact quiet_left (less_any z2 y2 false hb _)))
            go_wp2_with fail
            go_roundw
            case rel => exact ⟨x2, y2, z2, .inr (.inr ⟨rfl, hxy2, by omega⟩), hx2, hy2, hz2, Lib.hid (Blk.drewN hk2.out _), below_dr hbw2 _⟩
            case measure => simp [intOf]
        · by_cases hlt : y2 < x2
          · have hb : decide (y2 < x2) = true := by simpa using hlt
            go_wp2_with fail
            go_quiet ((go_at_call 103; exact quiet_left (less_any y2 x2 true hb _)))
            go_wp2_with fail
            go_region
            all_goals
              go_wp2_with fail
              go_roundw
              case rel =>
                have HK := fun n => Blk.drewN hk2.out n
                have HB := fun n => below_dr hbw2 n
                first
                  | exact ⟨y2, x2, z2, .inr (.inr ⟨rfl, by omega, by omega⟩), hy2, hx2, hz2, Lib.hid (sw10 (HK _) (HB _)).1, (sw10 (HK _) (HB _)).2⟩
                  | exact ⟨y2, x2, z2, .inr (.inr ⟨rfl, by omega, by omega⟩), hy2, hx2, hz2, Lib.hid (sw01 (HK _) (HB _)).1, (sw01 (HK _) (HB _)).2⟩
              case measure => simp [intOf]
          · have hb : decide (y2 < x2) = false := by simpa using hlt
            go_wp2_with fail
            go_quiet ((go_at_call 103; exact quiet_left (less_any y2 x2 false hb _)))
            go_wp2_with fail
            go_roundw
            case rel => exact ⟨x2, y2, z2, .inr (.inr ⟨rfl, by omega, hyz⟩), hx2, hy2, hz2, Lib.hid (Blk.drewN hk2.out _), below_dr hbw2 _⟩
            case measure => simp [intOf]
        · go_wp2_with fail
          go_quiet (fail)
          go_wp2_with fail
          go_roundw
          case rel => exact ⟨x2, y2, z2, .inr (.inr ⟨rfl, hxy2, hyz⟩), hx2, hy2, hz2, Lib.hid (Blk.drewN hk2.out _), below_dr hbw2 _⟩
          case measure => simp [intOf]
    · go_wp2_with fail
      go_end0
      exact ⟨rfl, x, y, z, hx.1, hxy, hyz, hz.2, hk.out, hbw⟩
theorem pdq3 (g : Nat) (a b c z : Int) (w : World) (h : Blk w g 3 #[.int .i64 a, .int .i64 b, .int .i64 c]) (N : Int) (ha : 0 ≤ a ∧ a ≤ N) (hb : 0 ≤ b ∧ b ≤ N) (hc : 0 ≤ c ∧ c ≤ N) :
    Calls Try.prog 71 #[.slice (some ⟨g, 0, none⟩) 3 3, .int .i64 0, .int .i64 3, .int .i64 z] w fun e w' => e = .returned (.tuple #[]) ∧ ∃ p q r : Int, 0 ≤ p ∧ p ≤ q ∧ q ≤ r ∧ r ≤ N ∧ Blk w' g 3 #[.int .i64 p, .int .i64 q, .int .i64 r] ∧ Below g w w' := by
  have Hc := Lib.hid (isort3 g a b c w h N ha hb hc)
  clear h
  go_enter Try.func71, Try.ntmps71
  go_wp2_with fail
  go_loopw [1, 2, 3] (fun a b c wr => a = .int .i64 0 ∧ b = .int .i64 3 ∧ wr = w) (fun _ _ _ _ => 0)
  case atStart => exact ⟨rfl, rfl, rfl⟩
  case round =>
    obtain ⟨rfl, rfl, rfl⟩ := hrel
    go_wp2_with fail
    refine Hc.out.mono ?_
    rintro e w1 ⟨rfl, p, q, r, h1, h2, h3, h4, hk, hb1⟩
    have Hk := Lib.hid hk
    clear hk
    go_wp2_with fail
    (try simp only [Exit.inBlock, Exit.then]); refine bodyPost_ret (results_none rfl _ _ _) rfl ?_
    exact ⟨rfl, p, q, r, h1, h2, h3, h4, Hk.out, hb1⟩
theorem sort3 (g : Nat) (a b c : Int) (w : World) (h : Blk w g 3 #[.int .i64 a, .int .i64 b, .int .i64 c]) (N : Int) (ha : 0 ≤ a ∧ a ≤ N) (hb : 0 ≤ b ∧ b ≤ N) (hc : 0 ≤ c ∧ c ≤ N) :
    Calls Try.prog 28 #[.slice (some ⟨g, 0, none⟩) 3 3] w fun e w' => e = .returned (.tuple #[]) ∧ ∃ p q r : Int, 0 ≤ p ∧ p ≤ q ∧ q ≤ r ∧ r ≤ N ∧ Blk w' g 3 #[.int .i64 p, .int .i64 q, .int .i64 r] ∧ Below g w w' := by
  have Hc := Lib.hid (fun z => pdq3 g a b c z w h N ha hb hc)
  clear h
  go_enter Try.func28, Try.ntmps28
  go_wp2_with fail
  refine (len3_any _).mono ?_
  rintro e w1 ⟨⟨z, rfl⟩, rfl⟩
  go_wp2_with fail
  refine (Hc.out z).mono ?_
  rintro e w1 ⟨rfl, p, q, r, h1, h2, h3, h4, hk, hb1⟩
  have Hk := Lib.hid hk
  clear hk
  go_wp2_with fail
  go_end0
  exact ⟨rfl, p, q, r, h1, h2, h3, h4, Hk.out, hb1⟩
end Go.Proofs.Ytchnbmdfpgkefaa
