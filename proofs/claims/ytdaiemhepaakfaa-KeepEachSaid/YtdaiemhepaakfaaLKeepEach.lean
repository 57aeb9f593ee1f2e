/- KeepEach: the walk. The last ones, those that go by every so many, and those that are pinned are kept, and no others. Written by gen_keep.py. -/
import Derived.Test.YtdaiemhepaakfaaKeepLaw
import Derived.Test.YtdaiemhepaakfaaOpenKeep
import Derived.Test.YtdaiemhepaakfaaWithin
import Derived.Test.YtdaiemhepaakfaaMinMax
namespace Go.Proofs.Ytdaiemhepaakfaa
open Go.ChangeShapes Go.WideShapes Go.RowKit
set_option linter.unusedVariables false
set_option linter.unusedSimpArgs false
set_option maxRecDepth 100000
set_option maxHeartbeats 4000000

theorem quiet_left {P : Program} {f : FuncId} {args : Array Value} {w : World} {n : Nat} {v : Value}
    (h : Calls P f args (w.drewN n) fun e w' => e = .returned v ∧ w.drewN n = w') : Calls P f args (w.drewN n) fun e w'' => e = .returned v ∧ ∃ m, w'' = w.drewN m :=
  h.mono fun _ _ ⟨he, hm⟩ => ⟨he, n, hm.symm⟩
theorem below_drewN {B : Nat} {a w : World} (h : Below B a w) (n : Nat) : Below B a (w.drewN n) := ⟨h.os, h.tape, h.output, h.size, h.block⟩

theorem keepEach_err (last every : Int) (p : List Int) (A : Option Addr) (n c : Nat) (head k : Int) (w : World) (h : RdI w w.heap.size A n c p) (er : Int) (her : er ≠ 0)
    (hof : ∀ w', RdI w' w.heap.size A n c p → w.heap.size ≤ w'.heap.size → Calls Try.prog 29 #[.agg #[.int .i64 last, .int .i64 every, .slice A n c], .int .i64 head] w' fun e w'' => e = .returned (.tuple #[.slice none 0 0, .int .i64 er]) ∧ Below w'.heap.size w' w'') :
    Calls Try.prog 14 #[pol last every A n c, .int .i64 head, .int .i64 k] w fun e w' => e = .returned (.bool true) ∧ Below w.heap.size w w' := by
  have H := Lib.hid h
  have Hof := Lib.hid hof
  have hne : (er != 0) = true := by simpa using her
  clear h hof her
  have hbw0 : Below w.heap.size w w := Below.refl _ _
  unfold pol
  go_enter Try.func14, Try.ntmps14
  have hbw1 := hbw0.alloc hbw0.size (.cells #[.int .i64 last, .int .i64 every, .slice A n c] 68)
  have kd1 := Blk.new w 68 #[.int .i64 last, .int .i64 every, .slice A n c]
  have hbw2 := hbw1.alloc hbw1.size (.cells #[.int .i64 1, .int .i64 9] 3)
  have lt2_d_s := kd1.lt
  have kd2 := kd1.alloc (.cells #[.int .i64 1, .int .i64 9] 3)
  have ks2 := Blk.new (w.alloc (.cells #[.int .i64 last, .int .i64 every, .slice A n c] 68)) 3 #[.int .i64 1, .int .i64 9]
  have hr2 := RdI.built (w.alloc (.cells #[.int .i64 last, .int .i64 every, .slice A n c] 68)) #[.int .i64 1, .int .i64 9] [1, 9] 2 rfl rfl (by decide)
  simp only [World.size_alloc] at hr2
  have Hr2 := Lib.hid hr2
  clear hr2
  go_wp2_with fail
  refine (keep_good 1 0 [1, 9] 3 _ 2 2 _ _ Hr2.out (by simp) (by decide) (by decide)).mono ?_
  rintro e w3 ⟨⟨v1, rfl, hown1⟩, hb3⟩
  have hbw3 := hbw2.trans (hb3.mono hbw2.size)
  have kd3 := kd2.below hb3 kd2.lt
  clear hb3
  rw [show kL 1 0 [1, 9] ((3 : Nat) : Int) (3 + 1) = [1, 3] from by decide] at hown1
  obtain ⟨A1, c1, rfl, hrd1⟩ := hown1.rd
  have Hrd1 := Lib.hid hrd1
  clear hown1 hrd1 Hr2
  have cd3_0 := kd3.cell 0
  have cd3_1 := kd3.cell 1
  have cd3_2 := kd3.cell 2
  have ld3 := kd3.lt
  go_wp2_with fail
  clear cd3_0 cd3_1 cd3_2
  have hbw4 := hbw3.alloc hbw3.size (.cells #[.int .i64 1, .int .i64 3] 3)
  have lt4_d_s := kd3.lt
  have kd4 := kd3.alloc (.cells #[.int .i64 1, .int .i64 3] 3)
  have ks4 := Blk.new w3 3 #[.int .i64 1, .int .i64 3]
  have Hr3 := Lib.hid (RdI.built w3 #[.int .i64 1, .int .i64 3] [1, 3] 2 rfl rfl (by decide))
  refine (equal_any [1, 3] [1, 3] A1 _ 2 2 c1 2 _ _ _ (Hrd1.out.alloc (Nat.le_refl _) _) Hr3.out rfl).mono ?_
  rintro e w5 ⟨rfl, hb5⟩
  have hbw5 := hbw4.trans (hb5.mono hbw4.size)
  have kd5 := kd4.below hb5 kd4.lt
  clear hb5
  clear Hr3 Hrd1
  have cd5_0 := kd5.cell 0
  have cd5_1 := kd5.cell 1
  have cd5_2 := kd5.cell 2
  have ld5 := kd5.lt
  go_wp2_with fail
  refine (Hof.out _ (H.out.below hbw5) hbw5.size).mono ?_
  rintro e w6 ⟨rfl, hb6⟩
  have hbw6 := hbw5.trans (hb6.mono hbw5.size)
  have kd6 := kd5.below hb6 kd5.lt
  clear hb6
  go_wp2_with fail
  go_ret
  exact ⟨rfl, hbw6⟩
theorem keepEach_good0 (last : Int) (e : Nat) (p : List Int) (A : Option Addr) (n c : Nat) (head : Nat) (k : Int) (w : World) (h : RdI w w.heap.size A n c p) (hk : kchk last e p = 0) (hh : (head : Int) ≤ 640) (he : e = 0) :
    Calls Try.prog 14 #[pol last e A n c, .int .i64 head, .int .i64 k] w fun e w' => e = .returned (.bool true) ∧ Below w.heap.size w w' := by
  subst he
  have hbw0 : Below w.heap.size w w := Below.refl _ _
  have H := Lib.hid h
  obtain ⟨q1, q2, _, q4, q5, q6⟩ := kchk_zero _ _ _ hk
  have hnp : n = p.length := h.1
  have q5' : (n : Int) ≤ 16 := by omega
  have Hnp := Lib.hid hnp
  have Hq6 := Lib.hid q6
  have Hk := Lib.hid hk
  have Hmost := Lib.hid (kL_most last p head 0 q1)
  have hh0 : (0 : Int) ≤ (head : Int) := by omega
  clear h hk q5 q6 hnp
  unfold pol
  go_enter Try.func14, Try.ntmps14
  have hbw1 := hbw0.alloc hbw0.size (.cells #[.int .i64 last, .int .i64 0, .slice A n c] 68)
  have kd1 := Blk.new w 68 #[.int .i64 last, .int .i64 0, .slice A n c]
  have hbw2 := hbw1.alloc hbw1.size (.cells #[.int .i64 1, .int .i64 9] 3)
  have lt2_d_s := kd1.lt
  have kd2 := kd1.alloc (.cells #[.int .i64 1, .int .i64 9] 3)
  have ks2 := Blk.new (w.alloc (.cells #[.int .i64 last, .int .i64 0, .slice A n c] 68)) 3 #[.int .i64 1, .int .i64 9]
  have hr2 := RdI.built (w.alloc (.cells #[.int .i64 last, .int .i64 0, .slice A n c] 68)) #[.int .i64 1, .int .i64 9] [1, 9] 2 rfl rfl (by decide)
  simp only [World.size_alloc] at hr2
  have Hr2 := Lib.hid hr2
  clear hr2
  go_wp2_with fail
  refine (keep_good 1 0 [1, 9] 3 _ 2 2 _ _ Hr2.out (by simp) (by decide) (by decide)).mono ?_
  rintro e w3 ⟨⟨v1, rfl, hown1⟩, hb3⟩
  have hbw3 := hbw2.trans (hb3.mono hbw2.size)
  have kd3 := kd2.below hb3 kd2.lt
  clear hb3
  rw [show kL 1 0 [1, 9] ((3 : Nat) : Int) (3 + 1) = [1, 3] from by decide] at hown1
  obtain ⟨A1, c1, rfl, hrd1⟩ := hown1.rd
  have Hrd1 := Lib.hid hrd1
  clear hown1 hrd1 Hr2
  have cd3_0 := kd3.cell 0
  have cd3_1 := kd3.cell 1
  have cd3_2 := kd3.cell 2
  have ld3 := kd3.lt
  go_wp2_with fail
  clear cd3_0 cd3_1 cd3_2
  have hbw4 := hbw3.alloc hbw3.size (.cells #[.int .i64 1, .int .i64 3] 3)
  have lt4_d_s := kd3.lt
  have kd4 := kd3.alloc (.cells #[.int .i64 1, .int .i64 3] 3)
  have ks4 := Blk.new w3 3 #[.int .i64 1, .int .i64 3]
  have Hr3 := Lib.hid (RdI.built w3 #[.int .i64 1, .int .i64 3] [1, 3] 2 rfl rfl (by decide))
  refine (equal_any [1, 3] [1, 3] A1 _ 2 2 c1 2 _ _ _ (Hrd1.out.alloc (Nat.le_refl _) _) Hr3.out rfl).mono ?_
  rintro e w5 ⟨rfl, hb5⟩
  have hbw5 := hbw4.trans (hb5.mono hbw4.size)
  have kd5 := kd4.below hb5 kd4.lt
  clear hb5
  clear Hr3 Hrd1
  have cd5_0 := kd5.cell 0
  have cd5_1 := kd5.cell 1
  have cd5_2 := kd5.cell 2
  have ld5 := kd5.lt
  go_wp2_with fail
  clear cd5_0 cd5_1 cd5_2
  refine (keep_good last (0 : Nat) p head A n c w.heap.size _ (H.out.below hbw5) hbw5.size Hk.out hh).mono ?_
  rintro e1 w6 ⟨⟨v2, rfl, hown2⟩, hb6⟩
  have hbw6 := hbw5.trans (hb6.mono hbw5.size)
  have kd6 := kd5.below hb6 kd5.lt
  clear hb6
  obtain ⟨A2, c2, rfl, hrd2⟩ := hown2.rd
  have hmem := kL_mem last (0 : Nat) p head (head + 1)
  have Hmem := Lib.hid hmem
  have HrdP := Lib.hid (H.out.below hbw6)
  generalize hL : kL last ((0 : Nat) : Int) p (head : Int) (head + 1) = L at *
  have Hrd2 := Lib.hid hrd2
  obtain ⟨m, hm⟩ : ∃ m, m = L.length := ⟨_, rfl⟩
  rw [← hm] at Hrd2 Hmost ⊢
  have Hm := Lib.hid hm
  clear hown2 hrd2 hmem hL hm
  obtain ⟨M, hM⟩ : ∃ M, min last ((head : Int) + 1) = M := ⟨_, rfl⟩
  have hM1 : 1 ≤ M := by omega
  have hM2 : M ≤ (head : Int) + 1 := by omega
  have hM3 : M ≤ last := by omega
  have HM := Lib.hid hM
  clear hM
  have cd6_0 := kd6.cell 0
  have cd6_1 := kd6.cell 1
  have cd6_2 := kd6.cell 2
  have ld6 := kd6.lt
  have hnz : (0 : Int) ≤ (n : Int) := by omega
  go_wp2_with (first | (refine wpList_min2 rfl (.tmp 41) (.tmp 43) _ rfl _ _ _ rfl rfl HM.out ?_))
  clear cd6_0 cd6_1 cd6_2
  have cd6_0 := kd6.cell 0
  have cd6_1 := kd6.cell 1
  have cd6_2 := kd6.cell 2
  have ld6 := kd6.lt
  go_wp2_with fail
  go_loop [13, 76] (fun r i => ∃ j : Nat, j ≤ n ∧ i = .int .i64 j) (fun _ i => n - (intOf i).toNat)
  case atStart => exact ⟨0, by omega, rfl⟩
  case round =>
    obtain ⟨j, hj, rfl⟩ := hrel
    by_cases hlt : j < n
    · obtain ⟨b, o, rfl, hb, hc⟩ := HrdP.out.at_ j hlt
      have hjl : j < p.length := by have := HrdP.out.1; omega
      have hin : Hid (p[j] ∈ p) := Lib.hid (List.getElem_mem hjl)
      have hy0 := (Hq6.out p[j] (List.getElem_mem hjl)).1
      generalize p[j] = y at *
      have hk0 : (0 : Int) ≤ (j : Int) := by omega
      have hkn : (j : Int) < (n : Int) := by omega
      by_cases hy : y ≤ (head : Int)
      · have hym : Hid (decide (y ∈ L) = true) := Lib.hid (by rw [decide_eq_true_iff, Hmem.out]; exact ⟨hy0, by omega, kB_pin hin.out⟩)
        go_wp2_with fail
        refine (contains_any L y A2 m c2 _ _ Hrd2.out true hym.out).mono ?_
        rintro e2 w2 ⟨rfl, rfl⟩
        go_wp2_with fail
        go_round
        case rel => exact ⟨j + 1, by omega, by go_num⟩
        case measure => simp [intOf]; omega
      · have hyd : decide (y ≤ (head : Int)) = false := by simpa using hy
        go_wp2_with fail
        go_round
        case rel => exact ⟨j + 1, by omega, by go_num⟩
        case measure => simp [intOf]; omega
    · obtain ⟨R, hR⟩ := Int.eq_ofNat_of_zero_le (show 0 ≤ (head : Int) - M + 1 by omega)
      have hmax : Hid (max 0 ((head : Int) - M + 1) = (R : Int)) := Lib.hid (by omega)
      have hRb : (R : Int) ≤ (head : Int) - M + 1 := by omega
      have hRb2 : (head : Int) - M + 1 ≤ (R : Int) := by omega
      clear hR
      go_wp2_with (first | (refine wpList_min2 rfl (.tmp 92) (.tmp 94) _ rfl _ _ _ rfl rfl HM.out ?_) | (refine wpList_max2 rfl (.const (.int .i64 0)) (.tmp 97) _ rfl _ _ _ rfl rfl hmax.out ?_))
      go_loop [14] (fun r => ∃ j : Nat, R ≤ j ∧ j ≤ head + 1 ∧ r = .int .i64 j) (fun r => head + 1 - (intOf r).toNat)
      case atStart => exact ⟨R, Nat.le_refl _, by omega, rfl⟩
      case round =>
        obtain ⟨q, hqR, hqh, rfl⟩ := hrel
        by_cases hlt2 : q < head + 1
        · have hlt3 : (q : Int) ≤ (head : Int) := by omega
          have hlt4 : q ≤ head := by omega
          have hqm : Hid (decide ((q : Int) ∈ L) = true) := Lib.hid (by rw [decide_eq_true_iff, Hmem.out]; exact ⟨by omega, by omega, kB_last (by omega)⟩)
          go_wp2_with fail
          refine (contains_any L q A2 m c2 _ _ Hrd2.out true hqm.out).mono ?_
          rintro e2 w2 ⟨rfl, rfl⟩
          go_wp2_with fail
          go_round
          case rel => exact ⟨q + 1, by omega, by omega, by go_num⟩
          case measure => simp [intOf]; omega
        · have hlt3 : ¬ q ≤ head := by omega
          have hlt4 : (head : Int) < (q : Int) := by omega
          have hm1 : (1 : Int) ≤ (m : Int) := by
            have h1 : (head : Int) ∈ L := (Hmem.out _).2 ⟨by omega, by omega, kB_last (by omega)⟩
            have h2 := List.length_pos_of_mem h1
            have := Hm.out
            omega
          have hm2 : (m : Int) ≤ M + (n : Int) := by
            have h1 := Hmost.out
            have h2 := HM.out
            have h3 := Hnp.out
            rw [h2] at h1
            rw [if_neg (by omega)] at h1
            omega
          go_wp2_with fail
          go_ret
          exact ⟨rfl, hbw6⟩
theorem keepEach_good1 (last : Int) (e : Nat) (p : List Int) (A : Option Addr) (n c : Nat) (head : Nat) (k : Int) (w : World) (h : RdI w w.heap.size A n c p) (hk : kchk last e p = 0) (hh : (head : Int) ≤ 640) (he : 0 < (e : Int)) :
    Calls Try.prog 14 #[pol last e A n c, .int .i64 head, .int .i64 k] w fun e w' => e = .returned (.bool true) ∧ Below w.heap.size w w' := by
  have hbw0 : Below w.heap.size w w := Below.refl _ _
  have H := Lib.hid h
  obtain ⟨q1, q2, _, q4, q5, q6⟩ := kchk_zero _ _ _ hk
  have hnp : n = p.length := h.1
  have q5' : (n : Int) ≤ 16 := by omega
  have Hnp := Lib.hid hnp
  have Hq6 := Lib.hid q6
  have Hk := Lib.hid hk
  have Hmost := Lib.hid (kL_most last p head e q1)
  have hh0 : (0 : Int) ≤ (head : Int) := by omega
  clear h hk q5 q6 hnp
  unfold pol
  go_enter Try.func14, Try.ntmps14
  have hbw1 := hbw0.alloc hbw0.size (.cells #[.int .i64 last, .int .i64 (e : Int), .slice A n c] 68)
  have kd1 := Blk.new w 68 #[.int .i64 last, .int .i64 (e : Int), .slice A n c]
  have hbw2 := hbw1.alloc hbw1.size (.cells #[.int .i64 1, .int .i64 9] 3)
  have lt2_d_s := kd1.lt
  have kd2 := kd1.alloc (.cells #[.int .i64 1, .int .i64 9] 3)
  have ks2 := Blk.new (w.alloc (.cells #[.int .i64 last, .int .i64 (e : Int), .slice A n c] 68)) 3 #[.int .i64 1, .int .i64 9]
  have hr2 := RdI.built (w.alloc (.cells #[.int .i64 last, .int .i64 (e : Int), .slice A n c] 68)) #[.int .i64 1, .int .i64 9] [1, 9] 2 rfl rfl (by decide)
  simp only [World.size_alloc] at hr2
  have Hr2 := Lib.hid hr2
  clear hr2
  go_wp2_with fail
  refine (keep_good 1 0 [1, 9] 3 _ 2 2 _ _ Hr2.out (by simp) (by decide) (by decide)).mono ?_
  rintro e w3 ⟨⟨v1, rfl, hown1⟩, hb3⟩
  have hbw3 := hbw2.trans (hb3.mono hbw2.size)
  have kd3 := kd2.below hb3 kd2.lt
  clear hb3
  rw [show kL 1 0 [1, 9] ((3 : Nat) : Int) (3 + 1) = [1, 3] from by decide] at hown1
  obtain ⟨A1, c1, rfl, hrd1⟩ := hown1.rd
  have Hrd1 := Lib.hid hrd1
  clear hown1 hrd1 Hr2
  have cd3_0 := kd3.cell 0
  have cd3_1 := kd3.cell 1
  have cd3_2 := kd3.cell 2
  have ld3 := kd3.lt
  go_wp2_with fail
  clear cd3_0 cd3_1 cd3_2
  have hbw4 := hbw3.alloc hbw3.size (.cells #[.int .i64 1, .int .i64 3] 3)
  have lt4_d_s := kd3.lt
  have kd4 := kd3.alloc (.cells #[.int .i64 1, .int .i64 3] 3)
  have ks4 := Blk.new w3 3 #[.int .i64 1, .int .i64 3]
  have Hr3 := Lib.hid (RdI.built w3 #[.int .i64 1, .int .i64 3] [1, 3] 2 rfl rfl (by decide))
  refine (equal_any [1, 3] [1, 3] A1 _ 2 2 c1 2 _ _ _ (Hrd1.out.alloc (Nat.le_refl _) _) Hr3.out rfl).mono ?_
  rintro e w5 ⟨rfl, hb5⟩
  have hbw5 := hbw4.trans (hb5.mono hbw4.size)
  have kd5 := kd4.below hb5 kd4.lt
  clear hb5
  clear Hr3 Hrd1
  have cd5_0 := kd5.cell 0
  have cd5_1 := kd5.cell 1
  have cd5_2 := kd5.cell 2
  have ld5 := kd5.lt
  go_wp2_with fail
  clear cd5_0 cd5_1 cd5_2
  refine (keep_good last e p head A n c w.heap.size _ (H.out.below hbw5) hbw5.size Hk.out hh).mono ?_
  rintro e1 w6 ⟨⟨v2, rfl, hown2⟩, hb6⟩
  have hbw6 := hbw5.trans (hb6.mono hbw5.size)
  have kd6 := kd5.below hb6 kd5.lt
  clear hb6
  obtain ⟨A2, c2, rfl, hrd2⟩ := hown2.rd
  have hmem := kL_mem last e p head (head + 1)
  have Hmem := Lib.hid hmem
  have HrdP := Lib.hid (H.out.below hbw6)
  generalize hL : kL last e p (head : Int) (head + 1) = L at *
  have Hrd2 := Lib.hid hrd2
  obtain ⟨m, hm⟩ : ∃ m, m = L.length := ⟨_, rfl⟩
  rw [← hm] at Hrd2 Hmost ⊢
  have Hm := Lib.hid hm
  clear hown2 hrd2 hmem hL hm
  obtain ⟨M, hM⟩ : ∃ M, min last ((head : Int) + 1) = M := ⟨_, rfl⟩
  have hM1 : 1 ≤ M := by omega
  have hM2 : M ≤ (head : Int) + 1 := by omega
  have hM3 : M ≤ last := by omega
  have HM := Lib.hid hM
  clear hM
  have cd6_0 := kd6.cell 0
  have cd6_1 := kd6.cell 1
  have cd6_2 := kd6.cell 2
  have ld6 := kd6.lt
  have hnz : (0 : Int) ≤ (n : Int) := by omega
  have hq : (head : Int) / (e : Int) = ((head / e : Nat) : Int) := by rw [Int.natCast_ediv]
  have hqb : ((head / e : Nat) : Int) ≤ 640 := by have := Nat.div_le_self head e; omega
  have hle : (1 : Int) ≤ (e : Int) := by omega
  obtain ⟨Q, hQ⟩ : ∃ Q, Q = head / e := ⟨_, rfl⟩
  rw [← hQ] at hq hqb
  have HQ := Lib.hid hQ
  clear hQ
  go_wp2_with (first | (refine wpList_min2 rfl (.tmp 41) (.tmp 43) _ rfl _ _ _ rfl rfl HM.out ?_))
  clear cd6_0 cd6_1 cd6_2
  have hJ := wi_lt k (Q + 1) (by omega)
  obtain ⟨J, hJe⟩ : ∃ J, wi k (Q + 1) = J := ⟨_, rfl⟩
  rw [hJe] at hJ
  have hT : J * e ≤ head := by have h1 : J * e ≤ Q * e := Nat.mul_le_mul (by omega) (Nat.le_refl _); have h2 := Nat.div_mul_le_self head e; rw [← HQ.out] at h2; omega
  have hTe : ((J : Int) * (e : Int)) = ((J * e : Nat) : Int) := by rw [Int.natCast_mul]
  have hTm : Hid (decide (((J * e : Nat) : Int) ∈ L) = true) := Lib.hid (by
    rw [decide_eq_true_iff, Hmem.out]
    exact ⟨by omega, by omega, kB_every he (by rw [Int.natCast_mul, Int.mul_emod_left])⟩)
  have hw3 : IntKind.i64.wrap ((J : Int) * (e : Int)) = ((J * e : Nat) : Int) := by rw [hTe]; exact IntWalk.i64_in _ (by omega)
  have hw1 : IntKind.i64.wrap ((head : Int).tdiv (e : Int)) = (Q : Int) := by
    rw [show (head : Int).tdiv (e : Int) = ((head / e : Nat) : Int) from rfl, ← HQ.out]; exact IntWalk.i64_in _ (by omega)
  have hw2 : IntKind.i64.wrap ((Q : Int) + 1) = ((Q + 1 : Nat) : Int) := by rw [show ((Q + 1 : Nat) : Int) = (Q : Int) + 1 from by omega]; exact IntWalk.i64_in _ (by omega)
  obtain ⟨T, hTT⟩ : ∃ T, T = J * e := ⟨_, rfl⟩
  rw [← hTT] at hT hTm hw3
  clear hTe hTT
  have cd6_0 := kd6.cell 0
  have cd6_1 := kd6.cell 1
  have cd6_2 := kd6.cell 2
  have ld6 := kd6.lt
  have hwi : ∀ W : World, Calls Try.prog 17 #[.int .i64 k, .int .i64 ((Q + 1 : Nat) : Int)] W fun e w' => e = .returned (.int .i64 (J : Int)) ∧ W = w' := fun W => by have h := within_any k (Q + 1) W (by omega) (by omega); rw [hJe] at h; exact h
  have Hwi := Lib.hid hwi
  have heI : (e : Int) ≠ 0 := by omega
  clear hwi hJe
  go_quiet ((go_at_call 17; exact quiet_left (Hwi.out _)))
  clear hw1 hw2 hw3
  have hr2W := Hrd2.out.drewN nq
  have hrPW := HrdP.out.drewN nq
  clear Hrd2 HrdP
  clear cd6_0 cd6_1 cd6_2
  clear ld6
  have hbw7 := below_drewN hbw6 nq
  have kd7 := kd6.drewN nq
  generalize hW7 : w6.drewN nq = W1 at *
  clear hW7
  have Hrd2 := Lib.hid hr2W
  have HrdP := Lib.hid hrPW
  clear hr2W hrPW
  have cd7_0 := kd7.cell 0
  have cd7_1 := kd7.cell 1
  have cd7_2 := kd7.cell 2
  have ld7 := kd7.lt
  go_wp2_with fail
  refine (contains_any L T A2 m c2 _ _ Hrd2.out true hTm.out).mono ?_
  rintro e2 w2 ⟨rfl, rfl⟩
  go_wp2_with fail
  go_loop [13, 76] (fun r i => ∃ j : Nat, j ≤ n ∧ i = .int .i64 j) (fun _ i => n - (intOf i).toNat)
  case atStart => exact ⟨0, by omega, rfl⟩
  case round =>
    obtain ⟨j, hj, rfl⟩ := hrel
    by_cases hlt : j < n
    · obtain ⟨b, o, rfl, hb, hc⟩ := HrdP.out.at_ j hlt
      have hjl : j < p.length := by have := HrdP.out.1; omega
      have hin : Hid (p[j] ∈ p) := Lib.hid (List.getElem_mem hjl)
      have hy0 := (Hq6.out p[j] (List.getElem_mem hjl)).1
      generalize p[j] = y at *
      have hk0 : (0 : Int) ≤ (j : Int) := by omega
      have hkn : (j : Int) < (n : Int) := by omega
      by_cases hy : y ≤ (head : Int)
      · have hym : Hid (decide (y ∈ L) = true) := Lib.hid (by rw [decide_eq_true_iff, Hmem.out]; exact ⟨hy0, by omega, kB_pin hin.out⟩)
        go_wp2_with fail
        refine (contains_any L y A2 m c2 _ _ Hrd2.out true hym.out).mono ?_
        rintro e2 w2 ⟨rfl, rfl⟩
        go_wp2_with fail
        go_round
        case rel => exact ⟨j + 1, by omega, by go_num⟩
        case measure => simp [intOf]; omega
      · have hyd : decide (y ≤ (head : Int)) = false := by simpa using hy
        go_wp2_with fail
        go_round
        case rel => exact ⟨j + 1, by omega, by go_num⟩
        case measure => simp [intOf]; omega
    · obtain ⟨R, hR⟩ := Int.eq_ofNat_of_zero_le (show 0 ≤ (head : Int) - M + 1 by omega)
      have hmax : Hid (max 0 ((head : Int) - M + 1) = (R : Int)) := Lib.hid (by omega)
      have hRb : (R : Int) ≤ (head : Int) - M + 1 := by omega
      have hRb2 : (head : Int) - M + 1 ≤ (R : Int) := by omega
      clear hR
      go_wp2_with (first | (refine wpList_min2 rfl (.tmp 92) (.tmp 94) _ rfl _ _ _ rfl rfl HM.out ?_) | (refine wpList_max2 rfl (.const (.int .i64 0)) (.tmp 97) _ rfl _ _ _ rfl rfl hmax.out ?_))
      go_loop [14] (fun r => ∃ j : Nat, R ≤ j ∧ j ≤ head + 1 ∧ r = .int .i64 j) (fun r => head + 1 - (intOf r).toNat)
      case atStart => exact ⟨R, Nat.le_refl _, by omega, rfl⟩
      case round =>
        obtain ⟨q, hqR, hqh, rfl⟩ := hrel
        by_cases hlt2 : q < head + 1
        · have hlt3 : (q : Int) ≤ (head : Int) := by omega
          have hlt4 : q ≤ head := by omega
          have hqm : Hid (decide ((q : Int) ∈ L) = true) := Lib.hid (by rw [decide_eq_true_iff, Hmem.out]; exact ⟨by omega, by omega, kB_last (by omega)⟩)
          go_wp2_with fail
          refine (contains_any L q A2 m c2 _ _ Hrd2.out true hqm.out).mono ?_
          rintro e2 w2 ⟨rfl, rfl⟩
          go_wp2_with fail
          go_round
          case rel => exact ⟨q + 1, by omega, by omega, by go_num⟩
          case measure => simp [intOf]; omega
        · have hlt3 : ¬ q ≤ head := by omega
          have hlt4 : (head : Int) < (q : Int) := by omega
          have hm1 : (1 : Int) ≤ (m : Int) := by
            have h1 : (head : Int) ∈ L := (Hmem.out _).2 ⟨by omega, by omega, kB_last (by omega)⟩
            have h2 := List.length_pos_of_mem h1
            have := Hm.out
            omega
          have hm2 : (m : Int) ≤ M + (n : Int) + ((Q : Int) + 1) := by
            have h1 := Hmost.out
            have h2 := HM.out
            have h3 := Hnp.out
            rw [h2] at h1
            rw [if_pos (by omega), ← HQ.out] at h1
            omega
          go_wp2_with fail
          go_ret
          exact ⟨rfl, hbw7⟩
theorem walk_KeepEach (v : Value) (x : Int × Int × List Int) (head : Int) (wh : (Lit.int .i64 head).wf = true) (k : Int) (wk : (Lit.int .i64 k).wf = true) (w : World) (hx : IsPolicy w v x) :
    Calls Try.prog 14 #[v, .int .i64 head, .int .i64 k] w fun e w' => e = .returned (.bool true) ∧ Below w.heap.size w w' := by
  obtain ⟨last, every, p⟩ := x
  obtain ⟨A, n, c, rfl, h⟩ := hx
  simp only at h ⊢
  by_cases hk : kchk last every p = 0
  · by_cases hh : head < 0 ∨ 640 < head
    · exact keepEach_err last every p A n c head k w h 1 (by decide) fun w' h' hs => keep_arg last every p head A n c _ w' h' hs hk hh
    · have hz := kchk_zero _ _ _ hk
      obtain ⟨H, rfl⟩ := Int.eq_ofNat_of_zero_le (show 0 ≤ head by omega)
      obtain ⟨e, rfl⟩ := Int.eq_ofNat_of_zero_le (show 0 ≤ every by omega)
      by_cases he : e = 0
      · exact keepEach_good0 last e p A n c H k w h hk (by omega) he
      · exact keepEach_good1 last e p A n c H k w h hk (by omega) (by omega)
  · exact keepEach_err last every p A n c head k w h _ hk fun w' h' hs => keep_err last every p head A n c _ w' h' hs hk
end Go.Proofs.Ytdaiemhepaakfaa
