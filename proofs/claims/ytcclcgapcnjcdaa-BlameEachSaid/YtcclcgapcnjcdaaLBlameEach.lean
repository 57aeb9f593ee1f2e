/- BlameEach: the walk. Each byte is somebody's. -/
import Derived.Test.YtcclcgapcnjcdaaBlame
import Derived.Test.YtcclcgapcnjcdaaBlameCnt
import Derived.Test.YtcclcgapcnjcdaaFirst
import Derived.Test.YtcclcgapcnjcdaaOpenRevs
namespace Go.Proofs.Ytcclcgapcnjcdaa
open Go.ChangeShapes Go.WideShapes Go.RowKit
set_option linter.unusedVariables false
set_option linter.unusedSimpArgs false
set_option maxRecDepth 100000
set_option maxHeartbeats 4000000


theorem szP_snoc_ (l : List Pt) (p : Pt) : szP (l ++ [p]) = szP l + (p.2.2.size : Int) := by
  induction l with
  | nil => simp [szP]
  | cons q l ih => simp only [List.cons_append, szP, ih]; omega
theorem blk_of_own {w : World} {base g m : Nat} {e : TypeId} {xs : List Value} (h : w.ownsRow base e 1 (.slice (some ⟨g, 0, none⟩) m m) m xs) : Blk w g e xs.toArray := by
  rcases h.2 with ⟨hv, _⟩ | ⟨g', cap, cur, hv, hg, hh, hn, hc, hcs, htk⟩
  · injection hv with h1; cases h1
  · injection hv with h1 h2 h3
    injection h1 with h1
    injection h1 with h1
    subst h1; subst h3
    unfold Blk
    rw [hh]
    have : cur = xs.toArray := by
      rw [← htk, List.take_of_length_le (by simp; omega)]
    rw [this]
theorem ic_set (C : List Int) (i : Nat) (u : Int) : (ic C).toArray.setIfInBounds i (.int .i64 u) = (ic (C.set i u)).toArray := by
  unfold ic
  simp [List.map_set]

theorem blameEach_err (base : ByteArray) (l : List Rv) (A : Option Addr) (n c : Nat) (hs : base.size ≤ 140737488351232) (w : World) (h : RdR w w.heap.size A n c l) (h1 : txE base l ≠ 0) :
    Calls Try.prog 7 #[.string base, .slice A n c] w fun e w' => e = .returned (.bool true) ∧ Below w.heap.size w w' := by
  have hbw0 : Below w.heap.size w w := Below.refl _ _
  have Hl := Lib.hid h
  clear h
  have hne : (txE base l != 0) = true := by simpa using h1
  have H1 := Lib.hid h1
  clear h1
  go_enter Try.func7, Try.ntmps7
  go_wp2_with fail
  have hrq := RdP.builtS w #[.int .i64 2, .int .i64 0, .string ⟨#[98]⟩, .int .i64 1, .int .i64 1, .string ⟨#[]⟩] [(2, 0, ⟨#[98]⟩), (1, 1, emp)] 2 rfl rfl (by decide) (by decide)
  have hbw1 := hbw0.alloc hbw0.size (.cells #[.int .i64 2, .int .i64 0, .string ⟨#[98]⟩, .int .i64 1, .int .i64 1, .string ⟨#[]⟩] 56)
  have Hl1 := Lib.hid (RdR.stepA Hl.out (.cells #[.int .i64 2, .int .i64 0, .string ⟨#[98]⟩, .int .i64 1, .int .i64 1, .string ⟨#[]⟩] 56))
  clear Hl
  have Hl := Hl1
  clear Hl1
  have Hq := Lib.hid hrq
  clear hrq
  have hrh : RdR ((w.alloc (.cells #[.int .i64 2, .int .i64 0, .string ⟨#[98]⟩, .int .i64 1, .int .i64 1, .string ⟨#[]⟩] 56)).alloc (.cells #[.int .i64 0, .int .i64 0, .slice (some ⟨w.heap.size, 0, none⟩) 2 2] 66)) ((w.alloc (.cells #[.int .i64 2, .int .i64 0, .string ⟨#[98]⟩, .int .i64 1, .int .i64 1, .string ⟨#[]⟩] 56)).alloc (.cells #[.int .i64 0, .int .i64 0, .slice (some ⟨w.heap.size, 0, none⟩) 2 2] 66)).heap.size (some ⟨w.heap.size + 1, 0, none⟩) 1 1 [(0, 0, [(2, 0, ⟨#[98]⟩), (1, 1, emp)])] := by
    have q := RdR.built1 (w.alloc (.cells #[.int .i64 2, .int .i64 0, .string ⟨#[98]⟩, .int .i64 1, .int .i64 1, .string ⟨#[]⟩] 56)) 0 0 (some ⟨w.heap.size, 0, none⟩) 2 2 [(2, 0, ⟨#[98]⟩), (1, 1, emp)] Hq.out
    simpa only [World.size_alloc] using q
  have hbw2 := hbw1.alloc hbw1.size (.cells #[.int .i64 0, .int .i64 0, .slice (some ⟨w.heap.size, 0, none⟩) 2 2] 66)
  have Hl2 := Lib.hid (RdR.stepA Hl.out (.cells #[.int .i64 0, .int .i64 0, .slice (some ⟨w.heap.size, 0, none⟩) 2 2] 66))
  clear Hl
  have Hl := Hl2
  clear Hl2
  have Hq2 := Lib.hid (RdP.stepA Hq.out (.cells #[.int .i64 0, .int .i64 0, .slice (some ⟨w.heap.size, 0, none⟩) 2 2] 66))
  clear Hq
  have Hq := Hq2
  clear Hq2
  have Hh := Lib.hid hrh
  clear hrh
  clear Hq
  have hc := blame_good ⟨#[97]⟩ [(0, 0, [(2, 0, ⟨#[98]⟩), (1, 1, emp)])] (some ⟨w.heap.size + 1, 0, none⟩) 1 1 _ ((w.alloc (.cells #[.int .i64 2, .int .i64 0, .string ⟨#[98]⟩, .int .i64 1, .int .i64 1, .string ⟨#[]⟩] 56)).alloc (.cells #[.int .i64 0, .int .i64 0, .slice (some ⟨w.heap.size, 0, none⟩) 2 2] 66)) Hh.out (Nat.le_refl _) (by decide) [1, 0] (by decide)
  refine (hc).mono ?_
  rintro e w3 ⟨A0, n0, c0, rfl, hr0, hb3⟩
  have hbw3 := hbw2.trans (hb3.mono hbw2.size)
  have Hl3 := Lib.hid (RdR.step Hl.out hb3)
  clear Hl
  have Hl := Hl3
  clear Hl3
  have Hh3 := Lib.hid (RdR.step Hh.out hb3)
  clear Hh
  have Hh := Hh3
  clear Hh3
  clear hb3
  clear hc
  clear Hh
  have Hx0 := Lib.hid hr0
  clear hr0
  go_wp2_with fail
  have hq0 := RdI.builtS w3 #[.int .i64 1, .int .i64 0] [1, 0] 2 rfl rfl (by decide)
  have hbw4 := hbw3.alloc hbw3.size (.cells #[.int .i64 1, .int .i64 0] 3)
  have Hl4 := Lib.hid (RdR.stepA Hl.out (.cells #[.int .i64 1, .int .i64 0] 3))
  clear Hl
  have Hl := Hl4
  clear Hl4
  have Hx04 := Lib.hid (RdI.stepA Hx0.out (.cells #[.int .i64 1, .int .i64 0] 3))
  clear Hx0
  have Hx0 := Hx04
  clear Hx04
  have Hq0 := Lib.hid hq0
  clear hq0
  refine (equal_any [1, 0] [1, 0] A0 _ n0 2 c0 2 _ _ _ Hx0.out Hq0.out rfl).mono ?_
  rintro e w5 ⟨rfl, hb5⟩
  have hbw5 := hbw4.trans (hb5.mono hbw4.size)
  have Hl5 := Lib.hid (RdR.step Hl.out hb5)
  clear Hl
  have Hl := Hl5
  clear Hl5
  have Hx05 := Lib.hid (RdI.step Hx0.out hb5)
  clear Hx0
  have Hx0 := Hx05
  clear Hx05
  have Hq05 := Lib.hid (RdI.step Hq0.out hb5)
  clear Hq0
  have Hq0 := Hq05
  clear Hq05
  clear hb5
  clear Hx0
  clear Hq0
  go_wp2_with fail
  refine (blame_err base l A n c _ _ Hl.out (Nat.le_refl _) (by omega) H1.out).mono ?_
  rintro e w6 ⟨rfl, hb6⟩
  have hbw6 := hbw5.trans (hb6.mono hbw5.size)
  have Hl6 := Lib.hid (RdR.step Hl.out hb6)
  clear Hl
  have Hl := Hl6
  clear Hl6
  clear hb6
  go_wp2_with fail
  go_ret
  exact ⟨rfl, hbw6⟩
theorem blameEach_ok (base : ByteArray) (l : List Rv) (A : Option Addr) (n c : Nat) (hs : base.size ≤ 140737488351232) (w : World) (h : RdR w w.heap.size A n c l) (h1 : txE base l = 0) :
    Calls Try.prog 7 #[.string base, .slice A n c] w fun e w' => e = .returned (.bool true) ∧ Below w.heap.size w w' := by
  have hbw0 : Below w.heap.size w w := Below.refl _ _
  have Hl := Lib.hid h
  clear h
  have hn : n = l.length := Hl.out.1
  have hn64 : (n : Int) ≤ 64 := by have := (txE_parts h1).2.1; omega
  have hb5 : (base.size : Int) ≤ 500 := by have := (txE_parts h1).1; omega
  have hlen := blame_len h1
  have hT5 := txt_size l base n (txE_parts h1).1
  rw [← hn] at hlen
  have Hrg := Lib.hid (blame_range base l)
  have Hz := Lib.hid (blame_zero base l)
  have Hnw := Lib.hid (fun j hj => blame_new h1 j hj)
  obtain ⟨T, hT⟩ : ∃ T, txt base l n = T := ⟨_, rfl⟩
  obtain ⟨X, hX⟩ : ∃ X, blame base l = X := ⟨_, rfl⟩
  rw [hT] at hlen hT5
  rw [hX] at hlen Hrg Hz Hnw
  have Hlen := Lib.hid hlen
  have HT := Lib.hid hT
  have HX := Lib.hid hX
  have H1 := Lib.hid h1
  have Hn := Lib.hid hn
  have hcast : (n : Int) + 1 = ((n + 1 : Nat) : Int) := by omega
  have Hcast := Lib.hid hcast
  clear h1 hn hT hX hcast hlen
  go_enter Try.func7, Try.ntmps7
  go_wp2_with fail
  have hrq := RdP.builtS w #[.int .i64 2, .int .i64 0, .string ⟨#[98]⟩, .int .i64 1, .int .i64 1, .string ⟨#[]⟩] [(2, 0, ⟨#[98]⟩), (1, 1, emp)] 2 rfl rfl (by decide) (by decide)
  have hbw1 := hbw0.alloc hbw0.size (.cells #[.int .i64 2, .int .i64 0, .string ⟨#[98]⟩, .int .i64 1, .int .i64 1, .string ⟨#[]⟩] 56)
  have Hl1 := Lib.hid (RdR.stepA Hl.out (.cells #[.int .i64 2, .int .i64 0, .string ⟨#[98]⟩, .int .i64 1, .int .i64 1, .string ⟨#[]⟩] 56))
  clear Hl
  have Hl := Hl1
  clear Hl1
  have Hq := Lib.hid hrq
  clear hrq
  have hrh : RdR ((w.alloc (.cells #[.int .i64 2, .int .i64 0, .string ⟨#[98]⟩, .int .i64 1, .int .i64 1, .string ⟨#[]⟩] 56)).alloc (.cells #[.int .i64 0, .int .i64 0, .slice (some ⟨w.heap.size, 0, none⟩) 2 2] 66)) ((w.alloc (.cells #[.int .i64 2, .int .i64 0, .string ⟨#[98]⟩, .int .i64 1, .int .i64 1, .string ⟨#[]⟩] 56)).alloc (.cells #[.int .i64 0, .int .i64 0, .slice (some ⟨w.heap.size, 0, none⟩) 2 2] 66)).heap.size (some ⟨w.heap.size + 1, 0, none⟩) 1 1 [(0, 0, [(2, 0, ⟨#[98]⟩), (1, 1, emp)])] := by
    have q := RdR.built1 (w.alloc (.cells #[.int .i64 2, .int .i64 0, .string ⟨#[98]⟩, .int .i64 1, .int .i64 1, .string ⟨#[]⟩] 56)) 0 0 (some ⟨w.heap.size, 0, none⟩) 2 2 [(2, 0, ⟨#[98]⟩), (1, 1, emp)] Hq.out
    simpa only [World.size_alloc] using q
  have hbw2 := hbw1.alloc hbw1.size (.cells #[.int .i64 0, .int .i64 0, .slice (some ⟨w.heap.size, 0, none⟩) 2 2] 66)
  have Hl2 := Lib.hid (RdR.stepA Hl.out (.cells #[.int .i64 0, .int .i64 0, .slice (some ⟨w.heap.size, 0, none⟩) 2 2] 66))
  clear Hl
  have Hl := Hl2
  clear Hl2
  have Hq2 := Lib.hid (RdP.stepA Hq.out (.cells #[.int .i64 0, .int .i64 0, .slice (some ⟨w.heap.size, 0, none⟩) 2 2] 66))
  clear Hq
  have Hq := Hq2
  clear Hq2
  have Hh := Lib.hid hrh
  clear hrh
  clear Hq
  have hc := blame_good ⟨#[97]⟩ [(0, 0, [(2, 0, ⟨#[98]⟩), (1, 1, emp)])] (some ⟨w.heap.size + 1, 0, none⟩) 1 1 _ ((w.alloc (.cells #[.int .i64 2, .int .i64 0, .string ⟨#[98]⟩, .int .i64 1, .int .i64 1, .string ⟨#[]⟩] 56)).alloc (.cells #[.int .i64 0, .int .i64 0, .slice (some ⟨w.heap.size, 0, none⟩) 2 2] 66)) Hh.out (Nat.le_refl _) (by decide) [1, 0] (by decide)
  refine (hc).mono ?_
  rintro e w3 ⟨A0, n0, c0, rfl, hr0, hb3⟩
  have hbw3 := hbw2.trans (hb3.mono hbw2.size)
  have Hl3 := Lib.hid (RdR.step Hl.out hb3)
  clear Hl
  have Hl := Hl3
  clear Hl3
  have Hh3 := Lib.hid (RdR.step Hh.out hb3)
  clear Hh
  have Hh := Hh3
  clear Hh3
  clear hb3
  clear hc
  clear Hh
  have Hx0 := Lib.hid hr0
  clear hr0
  go_wp2_with fail
  have hq0 := RdI.builtS w3 #[.int .i64 1, .int .i64 0] [1, 0] 2 rfl rfl (by decide)
  have hbw4 := hbw3.alloc hbw3.size (.cells #[.int .i64 1, .int .i64 0] 3)
  have Hl4 := Lib.hid (RdR.stepA Hl.out (.cells #[.int .i64 1, .int .i64 0] 3))
  clear Hl
  have Hl := Hl4
  clear Hl4
  have Hx04 := Lib.hid (RdI.stepA Hx0.out (.cells #[.int .i64 1, .int .i64 0] 3))
  clear Hx0
  have Hx0 := Hx04
  clear Hx04
  have Hq0 := Lib.hid hq0
  clear hq0
  refine (equal_any [1, 0] [1, 0] A0 _ n0 2 c0 2 _ _ _ Hx0.out Hq0.out rfl).mono ?_
  rintro e w5 ⟨rfl, hb5⟩
  have hbw5 := hbw4.trans (hb5.mono hbw4.size)
  have Hl5 := Lib.hid (RdR.step Hl.out hb5)
  clear Hl
  have Hl := Hl5
  clear Hl5
  have Hx05 := Lib.hid (RdI.step Hx0.out hb5)
  clear Hx0
  have Hx0 := Hx05
  clear Hx05
  have Hq05 := Lib.hid (RdI.step Hq0.out hb5)
  clear Hq0
  have Hq0 := Hq05
  clear Hq05
  clear hb5
  clear Hx0
  clear Hq0
  go_wp2_with fail
  have hc := blame_good base l A n c _ w5 Hl.out (Nat.le_refl _) H1.out X HX.out
  refine (hc).mono ?_
  rintro e w6 ⟨Ax, nx, cx, rfl, hrx, hb6⟩
  have hbw6 := hbw5.trans (hb6.mono hbw5.size)
  have Hl6 := Lib.hid (RdR.step Hl.out hb6)
  clear Hl
  have Hl := Hl6
  clear Hl6
  clear hb6
  clear hc
  have Hx := Lib.hid hrx
  clear hrx
  go_wp2_with fail
  have hc := rtext_good base l A n c _ n w6 Hl.out (Nat.le_refl _) H1.out (by have := Hn.out; omega)
  rw [HT.out] at hc
  refine (hc).mono ?_
  rintro e w7 ⟨rfl, hb7⟩
  have hbw7 := hbw6.trans (hb7.mono hbw6.size)
  have Hl7 := Lib.hid (RdR.step Hl.out hb7)
  clear Hl
  have Hl := Hl7
  clear Hl7
  have Hx7 := Lib.hid (RdI.step Hx.out hb7)
  clear Hx
  have Hx := Hx7
  clear Hx7
  clear hb7
  clear hc
  have hnx : nx = T.size := by have h2 := Hx.out.1; have := Hlen.out; omega
  have hnxe : ((nx : Int) != (T.size : Int)) = false := by simp; omega
  obtain ⟨i0, hi, hz0, hz1, hz2⟩ := info_parts Try.info_int
  have hcs := Nat.le_refl w7.heap.size
  have hnx5 : (nx : Int) ≤ 500 := by omega
  clear hnx
  go_wp2_with (first | (at_make; go_loud (refine wpList_make_full _ rfl (.tmp 65) (.tmp 65) 22 rfl w7.heap.size 3 i0 _ 1 Try.underlying22 hi hz0 hz1 .i64 .i64 _ _ (n + 1) rfl rfl Hcast.out Hcast.out (by rw [hz2]; omega) (by simp only [maxLen]; omega) hcs ?_)))
  intro wm hownm hgrm
  rw [ic_rep, ← cnt_nil] at hownm
  have hbm : Below w7.heap.size w7 wm := below_grown hgrm (Nat.le_refl _) (by simp)
  have hkm := blk_of_own hownm
  obtain ⟨g, hg⟩ : ∃ g, w7.heap.size = g := ⟨_, rfl⟩
  have Hkm : Hid (Blk wm g 3 (ic (cnt (n + 1) (X.take 0))).toArray) := Lib.hid (by rw [← hg]; exact hkm)
  rw [hg] at hbm ⊢
  have Hg := Lib.hid hg
  clear hownm hgrm hkm hi hz0 hz1 hz2 hcs hg
  go_wp2_with fail
  go_loopw [12, 69] (fun vv jv wr => ∃ (j : Nat), j ≤ nx ∧ jv = .int .i64 j ∧ Hid (Blk wr g 3 (ic (cnt (n + 1) (X.take j))).toArray) ∧ Below g w7 wr) (fun _ i _ => nx - (intOf i).toNat)
  case atStart => exact ⟨0, by omega, rfl, Hkm, hbm⟩
  case round =>
    obtain ⟨j, hj, rfl, hk, hbw⟩ := hrel
    by_cases hlt : j < nx
    · obtain ⟨b, o, rfl, hbb, hcx⟩ := (Hx.out.below (by rw [Hg.out]; exact hbw)).at_ j hlt
      have hjX : j < X.length := by have := Hx.out.1; omega
      have hv := Hrg.out _ (List.getElem_mem hjX)
      have hts : Hid (X.take (j + 1) = X.take j ++ [X[j]]) := Lib.hid (by rw [List.take_succ_eq_append_getElem hjX])
      generalize X[j] = v at *
      obtain ⟨u, rfl⟩ := Int.eq_ofNat_of_zero_le hv.1
      have hun : u < n + 1 := by have := hv.2; have := Hn.out; omega
      have hcell := hk.out.cell u
      have hfr := hk.out.frozen u
      have hlg := hk.out.lt
      rw [List.getElem?_toArray, ic_at _ u (by rw [cnt_len]; exact hun), cnt_at] at hcell
      obtain ⟨y, hy⟩ : ∃ y, cN (X.take j) u = y := ⟨_, rfl⟩
      have hy5 : (y : Int) ≤ 500 := by
        have h3 : cN (X.take j) u ≤ (X.take j).length := List.countP_le_length
        rw [List.length_take] at h3
        omega
      rw [hy] at hcell
      have hj0 : (0 : Int) ≤ (j : Int) := by omega
      have hjn : (j : Int) < (nx : Int) := by omega
      have hu0 : (0 : Int) ≤ (u : Int) := by omega
      have hun1 : (u : Int) < (n : Int) + 1 := by omega
      have hun2 : (u : Int) ≤ (n : Int) := by omega
      have hle : g ≤ g := Nat.le_refl _
      clear hv
      go_wp2_with fail
      have hset := hk.out.set_ u (.int .i64 ((y : Int) + 1))
      rw [ic_set, ← hy, cnt_snoc _ _ _ hun, ← hts.out] at hset
      have Hset := Lib.hid hset
      rw [hy] at Hset
      clear hset
      go_roundw
      case rel => exact ⟨j + 1, by omega, by go_num, Hset, hbw.setCell (p := ⟨g, u, none⟩) hle _⟩
      case measure => simp [intOf]; omega
    · have hjn : decide (j < nx) = false := by simpa using hlt
      obtain rfl : j = nx := by omega
      have hk2 := hk.out
      rw [List.take_of_length_le (by have := Hx.out.1; omega)] at hk2
      have Hk2 := Lib.hid hk2
      have hwr := hbw7.trans (hbw.mono (by rw [← Hg.out]; exact hbw7.size))
      have hgw := hk2.lt
      clear hk hk2
      obtain ⟨W5, rfl⟩ : ∃ W5, W5 = wr := ⟨_, rfl⟩
      go_wp2_with fail
      go_loopw [13, 14, 15, 17, 90] (fun iv cv pv qv kv wr2 => ∃ (k : Nat), k ≤ n + 1 ∧ kv = .int .i64 k ∧ Below W5.heap.size W5 wr2) (fun _ _ _ _ i _ => n + 1 - (intOf i).toNat)
      case atStart => exact ⟨0, by omega, rfl, Below.refl _ _⟩
      case round =>
        obtain ⟨k, hk, rfl, hb2⟩ := hrel
        by_cases hlt2 : k < n + 1
        · have hcell := (Hk2.out.below hb2 hgw).cell k
          rw [List.getElem?_toArray, ic_at _ k (by rw [cnt_len]; exact hlt2), cnt_at] at hcell
          obtain ⟨y, hy⟩ : ∃ y, cN X k = y := ⟨_, rfl⟩
          rw [hy] at hcell
          have hkk0 : (0 : Int) ≤ (k : Int) := by omega
          have hkn : (k : Int) < (n : Int) + 1 := by omega
          have hw2 := hwr.trans (hb2.mono hwr.size)
          by_cases hk0 : k = 0
          · subst hk0
            have hyb : (y : Int) ≤ (base.size : Int) := by have := Hz.out; omega
            obtain ⟨bb, hbb0⟩ : ∃ bb, ((0 : Int) == (n : Int)) = bb := ⟨_, rfl⟩
            cases bb
            all_goals
              go_wp2_with fail
              go_roundw
              case rel => exact ⟨1, by omega, by go_num, hb2⟩
              case measure => simp [intOf]
          · obtain ⟨m, rfl⟩ : ∃ m, k = m + 1 := ⟨k - 1, by omega⟩
            have hml : m < l.length := by have := Hn.out; omega
            obtain ⟨q1, q2, q3⟩ := Hnw.out m hml
            rw [hy] at q1 q2
            have hlb : Below g w7 wr := hbw.trans (hb2.mono (by have := hbw.size; omega))
            obtain ⟨b3, o3, A3, n3, c3, rfl, hb3, d0, d1, d2, hrd⟩ := (Hl.out.below (by rw [Hg.out]; exact hlb)).at_ m (by omega)
            obtain ⟨d, hd⟩ : ∃ d, (l[m]'hml).2.2 = d := ⟨_, rfl⟩
            rw [hd] at hrd q1 q2 q3
            have HF := Lib.hid (chk_parts q3).2.2.2.2.2
            have hn3 : (n3 : Int) ≤ 1600 := by have := (chk_parts q3).1; have := hrd.1; omega
            obtain ⟨S, hS⟩ : ∃ S, szP d = S := ⟨_, rfl⟩
            have HS := Lib.hid hS
            rw [hS] at q1 q2
            have Hq2 := Lib.hid (show (m : Int) + 1 = (n : Int) → (y : Int) = S from fun h => q2 (by have := Hn.out; omega))
            have Hrd := Lib.hid (show RdP wr wr.heap.size A3 n3 c3 d from hrd.more hlb.size)
            have hcast2 : ((m + 1 : Nat) : Int) = (m : Int) + 1 := by omega
            rw [hcast2] at hkn ⊢
            have hm1 : (m : Int) + 1 - 1 = (m : Int) := by omega
            have hm0 : (0 : Int) ≤ (m : Int) := by omega
            have hmn : (m : Int) < (n : Int) := by omega
            have hm00 : (0 : Int) < (m : Int) + 1 := by omega
            clear hS hd q2 q3 hrd d0 d1 hcast2
            go_wp2_with fail
            go_loopw [15, 17, 106] (fun xv qv iv wr2 => ∃ (j : Nat) (a : Int), j ≤ n3 ∧ iv = .int .i64 j ∧ xv = .int .i64 a ∧ Hid (a = szP (d.take j)) ∧ 0 ≤ a ∧ a ≤ 500 * j ∧ Below W5.heap.size W5 wr2 ∧ Below wr.heap.size wr wr2) (fun _ _ i _ => n3 - (intOf i).toNat)
            case atStart => exact ⟨0, 0, by omega, rfl, rfl, Lib.hid rfl, by omega, by omega, hb2, Below.refl _ _⟩
            case round =>
              obtain ⟨j, a, hj, rfl, rfl, ha, ha0, ha1, hbw2, hbw3⟩ := hrel
              by_cases hlt3 : j < n3
              · have hkl : j < d.length := by have := Hrd.out.1; omega
                obtain ⟨b6, o6, rfl, hb6, p0, p1, p2⟩ := (Hrd.out.below hbw3).at_ j hlt3
                have hbd := ((fitE_zero _).1 (HF.out d[j] (List.getElem_mem hkl))).2.2
                have hts : Hid (d.take (j + 1) = d.take j ++ [d[j]]) := Lib.hid (by rw [List.take_succ_eq_append_getElem hkl])
                obtain ⟨p, hp⟩ : ∃ p, p = d[j] := ⟨_, rfl⟩
                rw [← hp] at hbd hts p0 p1 p2
                clear hp
                obtain ⟨kd, m2, t⟩ := p
                simp only at hbd p0 p1 p2
                have hj0 : (0 : Int) ≤ (j : Int) := by omega
                have hjn : (j : Int) < (n3 : Int) := by omega
                have hgl : b6 < wr.heap.size := by have := hbw3.size; omega
                go_wp2_with fail
                go_roundw
                case rel => exact ⟨j + 1, a + t.size, by omega, by go_num, rfl, Lib.hid (by rw [hts.out, szP_snoc_, ← ha.out]), by omega, by omega, hbw2.alloc hbw2.size _, hbw3.alloc hbw3.size _⟩
                case measure => simp [intOf]; omega
              · have hjn : decide (j < n3) = false := by simpa using hlt3
                have haS : a = S := by rw [ha.out, List.take_of_length_le (by have := Hrd.out.1; omega)]; exact HS.out
                subst haS
                clear ha
                by_cases hmn1 : (m : Int) + 1 = (n : Int)
                · have hys := Hq2.out hmn1
                  have hmb : ((m : Int) + 1 == (n : Int)) = true := by simpa using hmn1
                  subst hys
                  go_wp2_with fail
                  go_roundw
                  case rel => exact ⟨m + 1 + 1, by omega, by go_num, hbw2⟩
                  case measure => simp [intOf]; omega
                · have hmb : ((m : Int) + 1 == (n : Int)) = false := by simpa using hmn1
                  go_wp2_with fail
                  go_roundw
                  case rel => exact ⟨m + 1 + 1, by omega, by go_num, hbw2⟩
                  case measure => simp [intOf]; omega
        · have hkn : decide (k < n + 1) = false := by simpa using hlt2
          have hw2 := hwr.trans (hb2.mono hwr.size)
          go_wp2_with fail
          go_ret
          exact ⟨rfl, hw2⟩
theorem walk_BlameEach (base : ByteArray) (hs : base.size ≤ 140737488351232) (v : Value) (l : List Rv) (w : World) (hx : IsRevs w v l) :
    Calls Try.prog 7 #[.string base, v] w fun e w' => e = .returned (.bool true) ∧ Below w.heap.size w w' := by
  obtain ⟨A, n, c, rfl, h⟩ := hx
  by_cases h1 : txE base l = 0
  · exact blameEach_ok base l A n c hs w h h1
  · exact blameEach_err base l A n c hs w h h1
end Go.Proofs.Ytcclcgapcnjcdaa
