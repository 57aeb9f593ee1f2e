/- BlameParts: the walk. Who is blamed from a text on is blamed from the beginning on. -/
import Derived.Test.YtcclcgapcnjcdaaBlame
import Derived.Test.YtcclcgapcnjcdaaOpenRevs
import Derived.Test.YtcclcgapcnjcdaaWithin
import Derived.Test.YtcclcgapcnjcdaaMinMax
namespace Go.Proofs.Ytcclcgapcnjcdaa
open Go.ChangeShapes Go.WideShapes Go.RowKit
set_option linter.unusedVariables false
set_option linter.unusedSimpArgs false
set_option maxRecDepth 100000
set_option maxHeartbeats 4000000


theorem blameParts_err (base : ByteArray) (l : List Rv) (A : Option Addr) (n c : Nat) (k : Int) (hs : base.size ≤ 140737488351232) (w : World) (h : RdR w w.heap.size A n c l) (h1 : txE base l ≠ 0) :
    Calls Try.prog 8 #[.string base, .slice A n c, .int .i64 k] w fun e w' => e = .returned (.bool true) ∧ Below w.heap.size w w' := by
  have hbw0 : Below w.heap.size w w := Below.refl _ _
  have Hl := Lib.hid h
  clear h
  have hne : (txE base l != 0) = true := by simpa using h1
  have H1 := Lib.hid h1
  clear h1
  go_enter Try.func8, Try.ntmps8
  go_wp2_with fail
  have hc := blame_good ⟨#[97, 98]⟩ [] none 0 0 _ w (RdR.nil _ w.heap.size) (Nat.le_refl _) (by decide) [0, 0] (by decide)
  refine (hc).mono ?_
  rintro e w1 ⟨A0, n0, c0, rfl, hr0, hb1⟩
  have hbw1 := hbw0.trans (hb1.mono hbw0.size)
  have Hl1 := Lib.hid (RdR.step Hl.out hb1)
  clear Hl
  have Hl := Hl1
  clear Hl1
  clear hb1
  clear hc
  have Hx0 := Lib.hid hr0
  clear hr0
  go_wp2_with fail
  have hq0 := RdI.builtS w1 #[.int .i64 0, .int .i64 0] [0, 0] 2 rfl rfl (by decide)
  have hbw2 := hbw1.alloc hbw1.size (.cells #[.int .i64 0, .int .i64 0] 3)
  have Hl2 := Lib.hid (RdR.stepA Hl.out (.cells #[.int .i64 0, .int .i64 0] 3))
  clear Hl
  have Hl := Hl2
  clear Hl2
  have Hx02 := Lib.hid (RdI.stepA Hx0.out (.cells #[.int .i64 0, .int .i64 0] 3))
  clear Hx0
  have Hx0 := Hx02
  clear Hx02
  have Hq0 := Lib.hid hq0
  clear hq0
  refine (equal_any [0, 0] [0, 0] A0 _ n0 2 c0 2 _ _ _ Hx0.out Hq0.out rfl).mono ?_
  rintro e w3 ⟨rfl, hb3⟩
  have hbw3 := hbw2.trans (hb3.mono hbw2.size)
  have Hl3 := Lib.hid (RdR.step Hl.out hb3)
  clear Hl
  have Hl := Hl3
  clear Hl3
  have Hx03 := Lib.hid (RdI.step Hx0.out hb3)
  clear Hx0
  have Hx0 := Hx03
  clear Hx03
  have Hq03 := Lib.hid (RdI.step Hq0.out hb3)
  clear Hq0
  have Hq0 := Hq03
  clear Hq03
  clear hb3
  clear Hx0
  clear Hq0
  go_wp2_with fail
  refine (blame_err base l A n c _ _ Hl.out (Nat.le_refl _) (by omega) H1.out).mono ?_
  rintro e w4 ⟨rfl, hb4⟩
  have hbw4 := hbw3.trans (hb4.mono hbw3.size)
  have Hl4 := Lib.hid (RdR.step Hl.out hb4)
  clear Hl
  have Hl := Hl4
  clear Hl4
  clear hb4
  go_wp2_with fail
  go_ret
  exact ⟨rfl, hbw4⟩
theorem blameParts_e (base : ByteArray) (l : List Rv) (A : Option Addr) (n c : Nat) (k : Int) (hs : base.size ≤ 140737488351232) (w : World) (h : RdR w w.heap.size A n c l) (h1 : txE base l = 0) (K : Nat) (hKe : wi k (n + 1) = K) (hcK : c = K) :
    Calls Try.prog 8 #[.string base, .slice A n c, .int .i64 k] w fun e w' => e = .returned (.bool true) ∧ Below w.heap.size w w' := by
  have hbw0 : Below w.heap.size w w := Below.refl _ _
  have Hl := Lib.hid h
  clear h
  have hn : n = l.length := Hl.out.1
  have hcaps := Hl.out.caps
  have hn64 : (n : Int) ≤ 64 := by have := (txE_parts h1).2.1; omega
  have hK := wi_lt k (n + 1) (by omega)
  rw [hKe] at hK
  have hKn : (K : Int) ≤ (n : Int) := by omega
  have hK0 : (0 : Int) ≤ (K : Int) := by omega
  have hnc : (n : Int) ≤ (c : Int) := by omega
  have hKc : (K : Int) ≤ (c : Int) := by omega
  have hms := txt_size l base K (txE_parts h1).1
  have Hpt := Lib.hid (blame_parts h1 K (by omega))
  have Hdr := Lib.hid (txE_drop h1 K)
  have Hrg := Lib.hid (blame_range base l)
  obtain ⟨mid, hmid⟩ : ∃ mid, txt base l K = mid := ⟨_, rfl⟩
  obtain ⟨X, hX⟩ : ∃ X, blame base l = X := ⟨_, rfl⟩
  obtain ⟨Y, hY⟩ : ∃ Y, blame mid (l.drop K) = Y := ⟨_, rfl⟩
  have hl500 : X.length ≤ 500 := by rw [← hX, blame_len h1]; exact txt_size l base _ (txE_parts h1).1
  rw [hmid] at hms Hdr
  rw [hmid, hX, hY] at Hpt
  rw [hX] at Hrg
  have Hmid := Lib.hid hmid
  have HX := Lib.hid hX
  have HY := Lib.hid hY
  have H1 := Lib.hid h1
  have Hn := Lib.hid hn
  have HKe := Lib.hid hKe
  have hcast : ((n + 1 : Nat) : Int) = (n : Int) + 1 := by omega
  have Hcast := Lib.hid hcast
  clear h1 hn hmid hX hY hKe hcast hK
  
  have hnK : n = K := by omega
  have hcK2 : K = c := hcK.symm
  subst hcK2
  subst hnK
  clear hcK
  go_enter Try.func8, Try.ntmps8
  go_wp2_with fail
  have hc := blame_good ⟨#[97, 98]⟩ [] none 0 0 _ w (RdR.nil _ w.heap.size) (Nat.le_refl _) (by decide) [0, 0] (by decide)
  refine (hc).mono ?_
  rintro e w1 ⟨A0, n0, c0, rfl, hr0, hb1⟩
  have hbw1 := hbw0.trans (hb1.mono hbw0.size)
  have Hl1 := Lib.hid (RdR.step Hl.out hb1)
  clear Hl
  have Hl := Hl1
  clear Hl1
  clear hb1
  clear hc
  have Hx0 := Lib.hid hr0
  clear hr0
  go_wp2_with fail
  have hq0 := RdI.builtS w1 #[.int .i64 0, .int .i64 0] [0, 0] 2 rfl rfl (by decide)
  have hbw2 := hbw1.alloc hbw1.size (.cells #[.int .i64 0, .int .i64 0] 3)
  have Hl2 := Lib.hid (RdR.stepA Hl.out (.cells #[.int .i64 0, .int .i64 0] 3))
  clear Hl
  have Hl := Hl2
  clear Hl2
  have Hx02 := Lib.hid (RdI.stepA Hx0.out (.cells #[.int .i64 0, .int .i64 0] 3))
  clear Hx0
  have Hx0 := Hx02
  clear Hx02
  have Hq0 := Lib.hid hq0
  clear hq0
  refine (equal_any [0, 0] [0, 0] A0 _ n0 2 c0 2 _ _ _ Hx0.out Hq0.out rfl).mono ?_
  rintro e w3 ⟨rfl, hb3⟩
  have hbw3 := hbw2.trans (hb3.mono hbw2.size)
  have Hl3 := Lib.hid (RdR.step Hl.out hb3)
  clear Hl
  have Hl := Hl3
  clear Hl3
  have Hx03 := Lib.hid (RdI.step Hx0.out hb3)
  clear Hx0
  have Hx0 := Hx03
  clear Hx03
  have Hq03 := Lib.hid (RdI.step Hq0.out hb3)
  clear Hq0
  have Hq0 := Hq03
  clear Hq03
  clear hb3
  clear Hx0
  clear Hq0
  go_wp2_with fail
  have hc := blame_good base l A n n _ w3 Hl.out (Nat.le_refl _) H1.out X HX.out
  refine (hc).mono ?_
  rintro e w4 ⟨Ax, nx, cx, rfl, hrx, hb4⟩
  have hbw4 := hbw3.trans (hb4.mono hbw3.size)
  have Hl4 := Lib.hid (RdR.step Hl.out hb4)
  clear Hl
  have Hl := Hl4
  clear Hl4
  clear hb4
  clear hc
  have Hx := Lib.hid hrx
  clear hrx
  go_wp2_with fail
  have hc := within_any k (n + 1) w4 (by omega) (by omega)
  rw [Hcast.out, HKe.out] at hc
  refine (hc).mono ?_
  rintro e w5 ⟨rfl, rfl⟩
  clear hc
  go_wp2_with fail
  have hc := rtext_good base l A n n _ n w4 Hl.out (Nat.le_refl _) H1.out (by have := Hn.out; omega)
  rw [Hmid.out] at hc
  refine (hc).mono ?_
  rintro e w6 ⟨rfl, hb6⟩
  have hbw6 := hbw4.trans (hb6.mono hbw4.size)
  have Hl6 := Lib.hid (RdR.step Hl.out hb6)
  clear Hl
  have Hl := Hl6
  clear Hl6
  have Hx6 := Lib.hid (RdI.step Hx.out hb6)
  clear Hx
  have Hx := Hx6
  clear Hx6
  clear hb6
  clear hc
  go_wp2_with fail
  have hrest : RdR w6 w6.heap.size A 0 0 (l.drop n) := by
    have := Hl.out.drop n (Nat.le_refl _) A (fun h => by omega)
    rwa [show n - n = 0 by omega] at this
  have Hrest := Lib.hid hrest
  clear hrest
  have hc := blame_good mid (l.drop n) A 0 0 _ w6 Hrest.out (Nat.le_refl _) Hdr.out Y HY.out
  refine (hc).mono ?_
  rintro e w7 ⟨Ay, ny, cy, rfl, hry, hb7⟩
  have hbw7 := hbw6.trans (hb7.mono hbw6.size)
  have Hl7 := Lib.hid (RdR.step Hl.out hb7)
  clear Hl
  have Hl := Hl7
  clear Hl7
  have Hx7 := Lib.hid (RdI.step Hx.out hb7)
  clear Hx
  have Hx := Hx7
  clear Hx7
  have Hrest7 := Lib.hid (RdR.step Hrest.out hb7)
  clear Hrest
  have Hrest := Hrest7
  clear Hrest7
  clear hb7
  clear hc
  have Hy := Lib.hid hry
  clear hry
  have hnx : nx = X.length := Hx.out.1
  have hxy : nx = ny := by have h1 := Hy.out.1; have h2 := congrArg List.length Hpt.out; rw [List.length_map] at h2; omega
  subst hxy
  have Hnx := Lib.hid hnx
  have hnx5 : (nx : Int) ≤ 500 := by omega
  clear hnx
  go_wp2_with fail
  go_loopw [14, 73] (fun iv jv wr => ∃ (j q : Nat), j ≤ nx ∧ jv = .int .i64 j ∧ wr = (w7).drewN q) (fun _ i _ => nx - (intOf i).toNat)
  case atStart => exact ⟨0, 0, by omega, rfl, rfl⟩
  case round =>
    obtain ⟨j, q, hj, rfl, rfl⟩ := hrel
    by_cases hlt : j < nx
    · obtain ⟨b, o, rfl, hbb, hcx⟩ := Hx.out.at_ j hlt
      obtain ⟨b', o', rfl, hbb', hcy⟩ := Hy.out.at_ j hlt
      have hjX : j < X.length := by have := Hnx.out; omega
      have hv := Hrg.out _ (List.getElem_mem hjX)
      have hyx : Y[j]'(by have := Hy.out.1; omega) = max 0 (X[j] - (n : Int)) := by
        have h1 := Hpt.out
        subst h1
        simp
      rw [hyx] at hcy
      clear hyx
      generalize X[j] = v at *
      have hv0 := hv.1
      have hvn : v ≤ 64 := by have := hv.2; have := Hn.out; omega
      clear hv
      have hj0 : (0 : Int) ≤ (j : Int) := by omega
      have hjn : (j : Int) < (nx : Int) := by omega
      have hwr : IntKind.i64.wrap (v - (n : Int)) = v - (n : Int) := IntWalk.i64_in _ (by omega)
      go_wp2_with fail
      go_quiet ((refine wpList_max2 rfl (.const (.int .i64 0)) (.tmp 81) _ rfl _ _ _ rfl rfl rfl ?_))
      go_wp2_with fail
      go_roundw
      case rel => exact ⟨j + 1, _, by omega, by go_num, rfl⟩
      case measure => simp [intOf]; omega
    · have hjn : decide (j < nx) = false := by simpa using hlt
      go_wp2_with fail
      go_ret
      exact ⟨rfl, below_drewN_ hbw7 q⟩
theorem blameParts_n (base : ByteArray) (l : List Rv) (A : Option Addr) (n c : Nat) (k : Int) (hs : base.size ≤ 140737488351232) (w : World) (h : RdR w w.heap.size A n c l) (h1 : txE base l = 0) (K : Nat) (hKe : wi k (n + 1) = K) (hcK : c ≠ K) :
    Calls Try.prog 8 #[.string base, .slice A n c, .int .i64 k] w fun e w' => e = .returned (.bool true) ∧ Below w.heap.size w w' := by
  have hbw0 : Below w.heap.size w w := Below.refl _ _
  have Hl := Lib.hid h
  clear h
  have hn : n = l.length := Hl.out.1
  have hcaps := Hl.out.caps
  have hn64 : (n : Int) ≤ 64 := by have := (txE_parts h1).2.1; omega
  have hK := wi_lt k (n + 1) (by omega)
  rw [hKe] at hK
  have hKn : (K : Int) ≤ (n : Int) := by omega
  have hK0 : (0 : Int) ≤ (K : Int) := by omega
  have hnc : (n : Int) ≤ (c : Int) := by omega
  have hKc : (K : Int) ≤ (c : Int) := by omega
  have hms := txt_size l base K (txE_parts h1).1
  have Hpt := Lib.hid (blame_parts h1 K (by omega))
  have Hdr := Lib.hid (txE_drop h1 K)
  have Hrg := Lib.hid (blame_range base l)
  obtain ⟨mid, hmid⟩ : ∃ mid, txt base l K = mid := ⟨_, rfl⟩
  obtain ⟨X, hX⟩ : ∃ X, blame base l = X := ⟨_, rfl⟩
  obtain ⟨Y, hY⟩ : ∃ Y, blame mid (l.drop K) = Y := ⟨_, rfl⟩
  have hl500 : X.length ≤ 500 := by rw [← hX, blame_len h1]; exact txt_size l base _ (txE_parts h1).1
  rw [hmid] at hms Hdr
  rw [hmid, hX, hY] at Hpt
  rw [hX] at Hrg
  have Hmid := Lib.hid hmid
  have HX := Lib.hid hX
  have HY := Lib.hid hY
  have H1 := Lib.hid h1
  have Hn := Lib.hid hn
  have HKe := Lib.hid hKe
  have hcast : ((n + 1 : Nat) : Int) = (n : Int) + 1 := by omega
  have Hcast := Lib.hid hcast
  clear h1 hn hmid hX hY hKe hcast hK
  
  have hcf : (c = K) = False := by simp; exact hcK
  have HcK := Lib.hid hcK
  clear hcK
  go_enter Try.func8, Try.ntmps8
  go_wp2_with fail
  have hc := blame_good ⟨#[97, 98]⟩ [] none 0 0 _ w (RdR.nil _ w.heap.size) (Nat.le_refl _) (by decide) [0, 0] (by decide)
  refine (hc).mono ?_
  rintro e w1 ⟨A0, n0, c0, rfl, hr0, hb1⟩
  have hbw1 := hbw0.trans (hb1.mono hbw0.size)
  have Hl1 := Lib.hid (RdR.step Hl.out hb1)
  clear Hl
  have Hl := Hl1
  clear Hl1
  clear hb1
  clear hc
  have Hx0 := Lib.hid hr0
  clear hr0
  go_wp2_with fail
  have hq0 := RdI.builtS w1 #[.int .i64 0, .int .i64 0] [0, 0] 2 rfl rfl (by decide)
  have hbw2 := hbw1.alloc hbw1.size (.cells #[.int .i64 0, .int .i64 0] 3)
  have Hl2 := Lib.hid (RdR.stepA Hl.out (.cells #[.int .i64 0, .int .i64 0] 3))
  clear Hl
  have Hl := Hl2
  clear Hl2
  have Hx02 := Lib.hid (RdI.stepA Hx0.out (.cells #[.int .i64 0, .int .i64 0] 3))
  clear Hx0
  have Hx0 := Hx02
  clear Hx02
  have Hq0 := Lib.hid hq0
  clear hq0
  refine (equal_any [0, 0] [0, 0] A0 _ n0 2 c0 2 _ _ _ Hx0.out Hq0.out rfl).mono ?_
  rintro e w3 ⟨rfl, hb3⟩
  have hbw3 := hbw2.trans (hb3.mono hbw2.size)
  have Hl3 := Lib.hid (RdR.step Hl.out hb3)
  clear Hl
  have Hl := Hl3
  clear Hl3
  have Hx03 := Lib.hid (RdI.step Hx0.out hb3)
  clear Hx0
  have Hx0 := Hx03
  clear Hx03
  have Hq03 := Lib.hid (RdI.step Hq0.out hb3)
  clear Hq0
  have Hq0 := Hq03
  clear Hq03
  clear hb3
  clear Hx0
  clear Hq0
  go_wp2_with fail
  have hc := blame_good base l A n c _ w3 Hl.out (Nat.le_refl _) H1.out X HX.out
  refine (hc).mono ?_
  rintro e w4 ⟨Ax, nx, cx, rfl, hrx, hb4⟩
  have hbw4 := hbw3.trans (hb4.mono hbw3.size)
  have Hl4 := Lib.hid (RdR.step Hl.out hb4)
  clear Hl
  have Hl := Hl4
  clear Hl4
  clear hb4
  clear hc
  have Hx := Lib.hid hrx
  clear hrx
  go_wp2_with fail
  have hc := within_any k (n + 1) w4 (by omega) (by omega)
  rw [Hcast.out, HKe.out] at hc
  refine (hc).mono ?_
  rintro e w5 ⟨rfl, rfl⟩
  clear hc
  go_wp2_with fail
  have hc := rtext_good base l A n c _ K w4 Hl.out (Nat.le_refl _) H1.out (by have := Hn.out; omega)
  rw [Hmid.out] at hc
  refine (hc).mono ?_
  rintro e w6 ⟨rfl, hb6⟩
  have hbw6 := hbw4.trans (hb6.mono hbw4.size)
  have Hl6 := Lib.hid (RdR.step Hl.out hb6)
  clear Hl
  have Hl := Hl6
  clear Hl6
  have Hx6 := Lib.hid (RdI.step Hx.out hb6)
  clear Hx
  have Hx := Hx6
  clear Hx6
  clear hb6
  clear hc
  go_wp2_with fail
  have hrest : RdR w6 w6.heap.size (Option.map (fun x => x.add (K * 3)) A) (n - K) (c - K) (l.drop K) := Hl.out.drop K (by omega) _ (fun _ b o e => by
    rw [e]
    simp only [Option.map_some, Addr.add]
    by_cases h0 : K * 3 = 0
    · simp [h0]
    · simp [h0])
  have Hrest := Lib.hid hrest
  clear hrest
  have hc := blame_good mid (l.drop K) (Option.map (fun x => x.add (K * 3)) A) (n - K) (c - K) _ w6 Hrest.out (Nat.le_refl _) Hdr.out Y HY.out
  refine (hc).mono ?_
  rintro e w7 ⟨Ay, ny, cy, rfl, hry, hb7⟩
  have hbw7 := hbw6.trans (hb7.mono hbw6.size)
  have Hl7 := Lib.hid (RdR.step Hl.out hb7)
  clear Hl
  have Hl := Hl7
  clear Hl7
  have Hx7 := Lib.hid (RdI.step Hx.out hb7)
  clear Hx
  have Hx := Hx7
  clear Hx7
  have Hrest7 := Lib.hid (RdR.step Hrest.out hb7)
  clear Hrest
  have Hrest := Hrest7
  clear Hrest7
  clear hb7
  clear hc
  have Hy := Lib.hid hry
  clear hry
  have hnx : nx = X.length := Hx.out.1
  have hxy : nx = ny := by have h1 := Hy.out.1; have h2 := congrArg List.length Hpt.out; rw [List.length_map] at h2; omega
  subst hxy
  have Hnx := Lib.hid hnx
  have hnx5 : (nx : Int) ≤ 500 := by omega
  clear hnx
  go_wp2_with fail
  go_loopw [14, 73] (fun iv jv wr => ∃ (j q : Nat), j ≤ nx ∧ jv = .int .i64 j ∧ wr = (w7).drewN q) (fun _ i _ => nx - (intOf i).toNat)
  case atStart => exact ⟨0, 0, by omega, rfl, rfl⟩
  case round =>
    obtain ⟨j, q, hj, rfl, rfl⟩ := hrel
    by_cases hlt : j < nx
    · obtain ⟨b, o, rfl, hbb, hcx⟩ := Hx.out.at_ j hlt
      obtain ⟨b', o', rfl, hbb', hcy⟩ := Hy.out.at_ j hlt
      have hjX : j < X.length := by have := Hnx.out; omega
      have hv := Hrg.out _ (List.getElem_mem hjX)
      have hyx : Y[j]'(by have := Hy.out.1; omega) = max 0 (X[j] - (K : Int)) := by
        have h1 := Hpt.out
        subst h1
        simp
      rw [hyx] at hcy
      clear hyx
      generalize X[j] = v at *
      have hv0 := hv.1
      have hvn : v ≤ 64 := by have := hv.2; have := Hn.out; omega
      clear hv
      have hj0 : (0 : Int) ≤ (j : Int) := by omega
      have hjn : (j : Int) < (nx : Int) := by omega
      have hwr : IntKind.i64.wrap (v - (K : Int)) = v - (K : Int) := IntWalk.i64_in _ (by omega)
      go_wp2_with fail
      go_quiet ((refine wpList_max2 rfl (.const (.int .i64 0)) (.tmp 81) _ rfl _ _ _ rfl rfl rfl ?_))
      go_wp2_with fail
      go_roundw
      case rel => exact ⟨j + 1, _, by omega, by go_num, rfl⟩
      case measure => simp [intOf]; omega
    · have hjn : decide (j < nx) = false := by simpa using hlt
      go_wp2_with fail
      go_ret
      exact ⟨rfl, below_drewN_ hbw7 q⟩
theorem walk_BlameParts (base : ByteArray) (hs : base.size ≤ 140737488351232) (v : Value) (l : List Rv) (k : Int) (wk : (Lit.int .i64 k).wf = true) (w : World) (hx : IsRevs w v l) :
    Calls Try.prog 8 #[.string base, v, .int .i64 k] w fun e w' => e = .returned (.bool true) ∧ Below w.heap.size w w' := by
  obtain ⟨A, n, c, rfl, h⟩ := hx
  by_cases h1 : txE base l = 0
  · by_cases hc : c = wi k (n + 1)
    · exact blameParts_e base l A n c k hs w h h1 _ rfl hc
    · exact blameParts_n base l A n c k hs w h h1 _ rfl hc
  · exact blameParts_err base l A n c k hs w h h1
end Go.Proofs.Ytcclcgapcnjcdaa
