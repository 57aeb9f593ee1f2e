/- Contract of scrivkeep.held. walk of scrivkeep.WorldHolds. -/
import Derived.Test.YtmnnaemcjmiplaaW30
namespace Go.Proofs.Ytmnnaemcjmiplaa
open Go.ChangeShapes Go.WideShapes Go.RowKit
set_option linter.unusedVariables false
set_option linter.unusedSimpArgs false
set_option maxRecDepth 100000
set_option maxHeartbeats 4000000
theorem wcalm_T {w : World} {B q : Nat} {s : Sh} {X : List St} {put edits : Int} {e : Nat → Nat} (h : WdB w B q s X put edits e) (hc : calmW s X) :
    Calls Try.prog 44 #[.pointer (some ⟨q, 0, none⟩)] w fun e w' => e = .returned (.bool true) ∧ Below w.heap.size w w' := by
  obtain ⟨F, sq, gs, cap, E, sp, hM, _⟩ := h.1
  refine (wcalm_any w F q sq gs cap E sp s X put edits hM h.2.base).mono ?_
  rintro en w1 ⟨b, rfl, hcal, hb1⟩
  cases b with
  | true => exact ⟨rfl, hb1⟩
  | false => exact absurd hc (by simpa using hcal)
theorem wcalm_F {w : World} {B q : Nat} {s : Sh} {X : List St} {put edits : Int} {e : Nat → Nat} (h : WdB w B q s X put edits e) (hc : ¬ calmW s X) :
    Calls Try.prog 44 #[.pointer (some ⟨q, 0, none⟩)] w fun e w' => e = .returned (.bool false) ∧ Below w.heap.size w w' := by
  obtain ⟨F, sq, gs, cap, E, sp, hM, _⟩ := h.1
  refine (wcalm_any w F q sq gs cap E sp s X put edits hM h.2.base).mono ?_
  rintro en w1 ⟨b, rfl, hcal, hb1⟩
  cases b with
  | false => exact ⟨rfl, hb1⟩
  | true => exact absurd (by simpa using hcal) hc
theorem calm_new (n : Nat) : calmW shN (seatsN n) := by
  intro x hx
  obtain ⟨i, hi, rfl⟩ := List.mem_map.1 hx
  exact ⟨rfl, Nat.le_refl _⟩
theorem ncalm_first (n : Nat) (h : 1 ≤ n) : ¬ calmW shN (X0 n) := by
  intro hc
  have h0 : (X0 n)[0]? = some (editS (seat0 0) [(2, 0, ⟨#[97]⟩)]) := List.getElem?_set_self (by rw [seatsN, List.length_map, List.length_range]; omega)
  have := (hc _ (List.mem_of_getElem? h0)).1
  have h2 : (editS (seat0 0) [(2, 0, ⟨#[97]⟩)]).up.length = 1 := rfl
  rw [this] at h2
  cases h2
theorem WdB.drewB {w : World} {B q : Nat} {s : Sh} {X : List St} {put edits : Int} {e : Nat → Nat} (h : WdB w B q s X put edits e) : WdB w.drew B q s X put edits e := h.below (Below.drew (Below.refl _ _))
theorem wrevs_E {w : World} {B q : Nat} {s : Sh} {X : List St} {put edits : Int} {e : Nat → Nat} (h : WdB w B q s X put edits e) :
    Calls Try.prog 43 #[.pointer (some ⟨q, 0, none⟩)] w fun e w' => ∃ v, e = .returned v ∧ ∃ (sl' : Sl) (ss : List Sl), v = .slice sl'.1 sl'.2.1 sl'.2.2 ∧ OwnV w' w.heap.size (.slice sl'.1 sl'.2.1 sl'.2.2) ss s.log.revs ∧ Below w.heap.size w w' := by
  refine (wrevs_B h).mono ?_
  rintro en w' ⟨sl', ss, h1, h2, h3⟩
  exact ⟨_, h1, sl', ss, rfl, h2, h3⟩
theorem held_B {w : World} {B q : Nat} {s : Sh} {X : List St} {put edits : Int} {e : Nat → Nat} (h : WdB w B q s X put edits e) (hB : B ≤ w.heap.size) {i : Nat} {x : St} (hx : X[i]? = some x) :
    Calls Try.prog 45 #[.pointer (some ⟨q, 0, none⟩), .int .i64 i] w fun e w' => e = .returned (.bool true) ∧ Below w.heap.size w w' := by
  have HWD := Lib.hid h
  have HXX := Lib.hid hx
  obtain ⟨B, hBw⟩ : ∃ B, w.heap.size = B := ⟨_, rfl⟩
  have HBw := Lib.hid hBw
  have HB : Hid (B ≤ w.heap.size) := Lib.hid (by omega)
  have HW : Hid (Below B w w) := Lib.hid (Below.refl _ _)
  have hsi := h.2.seat i x hx
  have hck := hsi.ck
  have HCT := Lib.hid (ckok_txt hck)
  obtain ⟨T, hT⟩ : ∃ T, x.told = T := ⟨_, rfl⟩
  obtain ⟨LT, hLT⟩ : ∃ LT, txt emp s.log.revs T = LT := ⟨_, rfl⟩
  have HLT := Lib.hid hLT
  have hrv : x.c.rev = ((T : Nat) : Int) := by rw [hsi.rev, hT]
  have HTL : Hid (T ≤ s.log.revs.length) := Lib.hid (by rw [← hT]; exact hsi.told)
  have hte : txE emp s.log.revs = 0 := by
    have h1 := h.2.inv.log.txe
    rw [h.2.text] at h1
    exact h1
  have HTE := Lib.hid hte
  have hch := hsi.ch
  rw [hT, hLT] at hch
  obtain ⟨D1, hD1⟩ : ∃ D1, doS x.c.sent LT = D1 := ⟨_, rfl⟩
  obtain ⟨D2, hD2⟩ : ∃ D2, doS x.c.held D1 = D2 := ⟨_, rfl⟩
  have hl6 : D1.size ≤ 9223372036854775807 := by rw [← hD1]; have := do_size_any x.c.sent LT; omega
  have HL6 := Lib.hid hl6
  clear hT hLT hte hl6 hBw hB
  go_enter Try.func45, Try.ntmps45
  cases hfl : x.c.fly with
  | false =>
    have hwt : x.c.wait = false := by
      cases hq : x.c.wait with
      | false => rfl
      | true => have := hck.wf hq; rw [hfl] at this; cases this
    have htx := hch.idle hfl
    clear h hx hsi hck hch hD1 hD2 HL6
    have HC := Lib.hid (And.intro hfl (And.intro hwt (And.intro htx hrv)))
    clear hfl hwt htx hrv
    have hc_ := wclient_B HWD.out HXX.out
    unfold clv clc at hc_
    simp only at hc_
    rw [HC.out.1, HC.out.2.1, HC.out.2.2.1, HC.out.2.2.2] at hc_
    have Hc_ := Lib.hid hc_
    clear hc_
    go_wp2_with fail
    refine Hc_.out.mono ?_
    rintro en w1 ⟨A1, n1, c1, A2, n2, c2, rfl, hso, hho, hb1⟩
    clear Hc_
    have HWD_ := Lib.hid (HWD.out.below hb1)
    clear HWD
    have HWD := HWD_
    clear HWD_
    have HW_ := Lib.hid (HW.out.trans (hb1.mono HB.out))
    clear HW
    have HW := HW_
    clear HW_
    have HB_ : Hid (B ≤ w1.heap.size) := Lib.hid (Nat.le_trans HB.out hb1.size)
    clear HB hb1
    have HB := HB_
    clear HB_
    have HS := Lib.hid (rdS_ hso HCT.out.1)
    have HH := Lib.hid (rdS_ hho HCT.out.2)
    have kz := Blk.new w1 85 #[.int .i64 x.c.who, .int .i64 (T : Nat), .int .i64 x.c.seq, .string LT, .bool false, .slice A1 n1 c1, .bool false, .slice A2 n2 c2]
    have hal := (Below.refl w1.heap.size w1).alloc (Nat.le_refl _) (.cells #[.int .i64 x.c.who, .int .i64 (T : Nat), .int .i64 x.c.seq, .string LT, .bool false, .slice A1 n1 c1, .bool false, .slice A2 n2 c2] 85)
    obtain ⟨y, hy⟩ : ∃ y, w1.heap.size = y := ⟨_, rfl⟩
    clear hso hho
    have HWD_ := Lib.hid (HWD.out.below hal)
    clear HWD
    have HWD := HWD_
    clear HWD_
    have HS_ := Lib.hid (HS.out.step hal)
    clear HS
    have HS := HS_
    clear HS_
    have HH_ := Lib.hid (HH.out.step hal)
    clear HH
    have HH := HH_
    clear HH_
    have HW_ := Lib.hid (HW.out.trans (hal.mono HB.out))
    clear HW
    have HW := HW_
    clear HW_
    have HB_ : Hid (B ≤ (w1.alloc (.cells #[.int .i64 x.c.who, .int .i64 (T : Nat), .int .i64 x.c.seq, .string LT, .bool false, .slice A1 n1 c1, .bool false, .slice A2 n2 c2] 85)).heap.size) := Lib.hid (Nat.le_trans HB.out hal.size)
    clear HB hal
    have HB := HB_
    clear HB_
    have HK := Lib.hid kz
    clear kz
    go_upto_region 4 with (fail)
    obtain ⟨U, hU⟩ : ∃ U, w1.alloc (.cells #[.int .i64 x.c.who, .int .i64 (T : Nat), .int .i64 x.c.seq, .string LT, .bool false, .slice A1 n1 c1, .bool false, .slice A2 n2 c2] 85) = U := ⟨_, rfl⟩
    rw [hU, hy] at HK
    rw [hU] at HWD HW HB HS HH
    try rw [hU]
    try rw [hy]
    clear hU hy
    have HRV := Lib.hid (wrevs_E HWD.out.drewB)
    refine wp_region_held (S := fun w' => w'.cell? ⟨y, 1, none⟩ = some (.int .i64 (T : Nat)) ∧ Below U.heap.size U w') (by kernel_rfl) ?_
    have hS : U.drew.cell? ⟨y, 1, none⟩ = some (.int .i64 (T : Nat)) ∧ Below U.heap.size U U.drew := ⟨HK.out.drew.cell 1, Below.drew (Below.refl _ _)⟩
    change wpAnyH _ _ _ _ _ _ _ _ U.drew
    refine wpAnyH_takeD 17 (i := 0) rfl rfl (by kernel_rfl) (by kernel_rfl) (by kernel_rfl) (fun _ _ _ h => h) (v := .pointer (some ⟨q, 0, none⟩)) (.inl ⟨rfl, fun w' h' => by go_simp⟩) hS ?_
    simp only [Act.put, List.setIfInBounds_toArray, List.set_cons_zero, List.set_cons_succ]
    refine wpAnyH_takeD 19 (i := 2) rfl rfl (by kernel_rfl) (by kernel_rfl) (by kernel_rfl) (fun _ _ _ h => h) (v := .pointer (some ⟨y, 1, none⟩)) (.inl ⟨rfl, fun w' h' => by go_simp⟩) hS ?_
    simp only [Act.put, List.setIfInBounds_toArray, List.set_cons_zero, List.set_cons_succ]
    refine wpAnyH_takeD 20 (i := 3) rfl rfl (by kernel_rfl) (by kernel_rfl) (by kernel_rfl) (fun _ _ _ h => h) (v := .int .i64 (T : Nat)) (.inl ⟨rfl, fun w' h' => by obtain ⟨h1, -⟩ := h'; go_simp⟩) hS ?_
    simp only [Act.put, List.setIfInBounds_toArray, List.set_cons_zero, List.set_cons_succ]
    have hcc_ := HRV.out
    refine wpAnyH_all (rs := [1]) (by kernel_rfl) (List.cons_ne_nil _ _) (fun i1 hi1 => ?_)
    obtain rfl := List.mem_singleton.1 hi1
    refine wpOp_enterE 18 rfl rfl rfl 43 #[.pointer (some ⟨q, 0, none⟩)] (by go_simp) (fun v w' => ∃ (sl' : Sl) (ss : List Sl), v = .slice sl'.1 sl'.2.1 sl'.2.2 ∧ OwnV w' U.drew.heap.size (.slice sl'.1 sl'.2.1 sl'.2.2) ss s.log.revs ∧ Below U.drew.heap.size U.drew w') hcc_ ?_
    intro vv2 v2 hv2
    clear hcc_
    obtain ⟨⟨Aw, nw, cw⟩, ssw, rfl, how, hbb⟩ := hv2
    have hb2 : Below U.heap.size U v2 := (Below.drew (Below.refl _ _)).trans hbb
    have how := how.base (Nat.zero_le _)
    have HV := Lib.hid how
    have hSv2 : v2.cell? ⟨y, 1, none⟩ = some (.int .i64 (T : Nat)) ∧ Below U.heap.size U v2 := ⟨(HK.out.below hb2 HK.out.lt).cell 1, hb2⟩
    clear how hbb
    simp only [Act.put, List.setIfInBounds_toArray, List.set_cons_zero, List.set_cons_succ]
    refine ⟨hSv2, ?_⟩
    have hcc_ := (by have h9 := rtext_good emp s.log.revs Aw nw cw _ T v2 HV.out.rd (Nat.le_refl _) HTE.out HTL.out; rw [HLT.out] at h9; exact h9)
    refine wpAnyH_all (rs := [4]) (by kernel_rfl) (List.cons_ne_nil _ _) (fun i4 hi4 => ?_)
    obtain rfl := List.mem_singleton.1 hi4
    refine wpOp_enter 21 rfl rfl rfl 35 #[.string ⟨#[]⟩, .slice Aw nw cw, .int .i64 (T : Nat)] (by go_simp) (.tuple #[.string LT, .int .i64 0]) (fun w' => Below v2.heap.size v2 w') hcc_ ?_
    intro v3 hv3
    simp only [Act.put, List.setIfInBounds_toArray, List.set_cons_zero, List.set_cons_succ]
    clear hcc_
    have hb3 : Below U.heap.size U v3 := hSv2.2.trans (hv3.mono hSv2.2.size)
    have hSv3 : v3.cell? ⟨y, 1, none⟩ = some (.int .i64 (T : Nat)) ∧ Below U.heap.size U v3 := ⟨(HK.out.below hb3 HK.out.lt).cell 1, hb3⟩
    clear hv3
    refine ⟨hSv3, ?_⟩
    refine wpAnyH_takeD 16 (i := 5) rfl rfl (by kernel_rfl) (by kernel_rfl) (by kernel_rfl) (fun _ _ _ h => h) (v := .tuple #[.string LT, .int .i64 0]) (.inl ⟨rfl, fun w' h' => by go_simp⟩) hSv3 ?_
    simp only [Act.put, List.setIfInBounds_toArray, List.set_cons_zero, List.set_cons_succ]
    refine wpAnyH_takeD 22 (i := 6) rfl rfl (by kernel_rfl) (by kernel_rfl) (by kernel_rfl) (fun _ _ _ h => h) (v := .string LT) (.inl ⟨rfl, fun w' h' => by go_simp⟩) hSv3 ?_
    simp only [Act.put, List.setIfInBounds_toArray, List.set_cons_zero, List.set_cons_succ]
    refine wpAnyH_takeD 23 (i := 7) rfl rfl (by kernel_rfl) (by kernel_rfl) (by kernel_rfl) (fun _ _ _ h => h) (v := .int .i64 0) (.inl ⟨rfl, fun w' h' => by go_simp⟩) hSv3 ?_
    simp only [Act.put, List.setIfInBounds_toArray, List.set_cons_zero, List.set_cons_succ]
    refine wpAnyH_takeD 7 (i := 8) rfl rfl (by kernel_rfl) (by kernel_rfl) (by kernel_rfl) (fun _ _ _ h => h) (v := .string LT) (.inl ⟨rfl, fun w' h' => by go_simp⟩) hSv3 ?_
    simp only [Act.put, List.setIfInBounds_toArray, List.set_cons_zero, List.set_cons_succ]
    refine wpAnyH_takeD 6 (i := 9) rfl rfl (by kernel_rfl) (by kernel_rfl) (by kernel_rfl) (fun _ _ _ h => h) (v := .int .i64 0) (.inl ⟨rfl, fun w' h' => by go_simp⟩) hSv3 ?_
    simp only [Act.put, List.setIfInBounds_toArray, List.set_cons_zero, List.set_cons_succ]
    refine wpAnyH_done (by kernel_rfl) ?_ _
    clear HV hb2 hS hSv2 hSv3 HRV
    have HWD_ := Lib.hid (HWD.out.below hb3)
    clear HWD
    have HWD := HWD_
    clear HWD_
    have HS_ := Lib.hid (HS.out.step hb3)
    clear HS
    have HS := HS_
    clear HS_
    have HH_ := Lib.hid (HH.out.step hb3)
    clear HH
    have HH := HH_
    clear HH_
    have HK_ := Lib.hid (HK.out.below hb3 HK.out.lt)
    clear HK
    have HK := HK_
    clear HK_
    have HW_ := Lib.hid (HW.out.trans (hb3.mono HB.out))
    clear HW
    have HW := HW_
    clear HW_
    have HB_ : Hid (B ≤ v3.heap.size) := Lib.hid (Nat.le_trans HB.out hb3.size)
    clear HB hb3
    have HB := HB_
    clear HB_
    have z4 := HK.out.cell 4
    have z6 := HK.out.cell 6
    have z3 := HK.out.cell 3
    have lz := HK.out.lt
    go_wp2_with fail
    go_ret
    exact ⟨rfl, HBw.out ▸ HW.out⟩
  | true =>
    have hE1 := hch.sent hfl
    have HD1 := Lib.hid (And.intro hE1 hD1)
    have hl5 : LT.size ≤ 9223372036854775807 := by have := (do_chk hE1).2.2.2; omega
    have HL5 := Lib.hid hl5
    clear hl5
    cases hwt : x.c.wait with
    | false =>
      have htx : x.c.text = D1 := by rw [hch.flies hfl hwt, hD1]
      clear h hx hsi hck hch hD1 hD2 hE1 HL6
      have HC := Lib.hid (And.intro hfl (And.intro hwt (And.intro htx hrv)))
      clear hfl hwt htx hrv
      have hc_ := wclient_B HWD.out HXX.out
      unfold clv clc at hc_
      simp only at hc_
      rw [HC.out.1, HC.out.2.1, HC.out.2.2.1, HC.out.2.2.2] at hc_
      have Hc_ := Lib.hid hc_
      clear hc_
      go_wp2_with fail
      refine Hc_.out.mono ?_
      rintro en w1 ⟨A1, n1, c1, A2, n2, c2, rfl, hso, hho, hb1⟩
      clear Hc_
      have HWD_ := Lib.hid (HWD.out.below hb1)
      clear HWD
      have HWD := HWD_
      clear HWD_
      have HW_ := Lib.hid (HW.out.trans (hb1.mono HB.out))
      clear HW
      have HW := HW_
      clear HW_
      have HB_ : Hid (B ≤ w1.heap.size) := Lib.hid (Nat.le_trans HB.out hb1.size)
      clear HB hb1
      have HB := HB_
      clear HB_
      have HS := Lib.hid (rdS_ hso HCT.out.1)
      have HH := Lib.hid (rdS_ hho HCT.out.2)
      have kz := Blk.new w1 85 #[.int .i64 x.c.who, .int .i64 (T : Nat), .int .i64 x.c.seq, .string D1, .bool true, .slice A1 n1 c1, .bool false, .slice A2 n2 c2]
      have hal := (Below.refl w1.heap.size w1).alloc (Nat.le_refl _) (.cells #[.int .i64 x.c.who, .int .i64 (T : Nat), .int .i64 x.c.seq, .string D1, .bool true, .slice A1 n1 c1, .bool false, .slice A2 n2 c2] 85)
      obtain ⟨y, hy⟩ : ∃ y, w1.heap.size = y := ⟨_, rfl⟩
      clear hso hho
      have HWD_ := Lib.hid (HWD.out.below hal)
      clear HWD
      have HWD := HWD_
      clear HWD_
      have HS_ := Lib.hid (HS.out.step hal)
      clear HS
      have HS := HS_
      clear HS_
      have HH_ := Lib.hid (HH.out.step hal)
      clear HH
      have HH := HH_
      clear HH_
      have HW_ := Lib.hid (HW.out.trans (hal.mono HB.out))
      clear HW
      have HW := HW_
      clear HW_
      have HB_ : Hid (B ≤ (w1.alloc (.cells #[.int .i64 x.c.who, .int .i64 (T : Nat), .int .i64 x.c.seq, .string D1, .bool true, .slice A1 n1 c1, .bool false, .slice A2 n2 c2] 85)).heap.size) := Lib.hid (Nat.le_trans HB.out hal.size)
      clear HB hal
      have HB := HB_
      clear HB_
      have HK := Lib.hid kz
      clear kz
      go_upto_region 4 with (fail)
      obtain ⟨U, hU⟩ : ∃ U, w1.alloc (.cells #[.int .i64 x.c.who, .int .i64 (T : Nat), .int .i64 x.c.seq, .string D1, .bool true, .slice A1 n1 c1, .bool false, .slice A2 n2 c2] 85) = U := ⟨_, rfl⟩
      rw [hU, hy] at HK
      rw [hU] at HWD HW HB HS HH
      try rw [hU]
      try rw [hy]
      clear hU hy
      have HRV := Lib.hid (wrevs_E HWD.out.drewB)
      refine wp_region_held (S := fun w' => w'.cell? ⟨y, 1, none⟩ = some (.int .i64 (T : Nat)) ∧ Below U.heap.size U w') (by kernel_rfl) ?_
      have hS : U.drew.cell? ⟨y, 1, none⟩ = some (.int .i64 (T : Nat)) ∧ Below U.heap.size U U.drew := ⟨HK.out.drew.cell 1, Below.drew (Below.refl _ _)⟩
      change wpAnyH _ _ _ _ _ _ _ _ U.drew
      refine wpAnyH_takeD 17 (i := 0) rfl rfl (by kernel_rfl) (by kernel_rfl) (by kernel_rfl) (fun _ _ _ h => h) (v := .pointer (some ⟨q, 0, none⟩)) (.inl ⟨rfl, fun w' h' => by go_simp⟩) hS ?_
      simp only [Act.put, List.setIfInBounds_toArray, List.set_cons_zero, List.set_cons_succ]
      refine wpAnyH_takeD 19 (i := 2) rfl rfl (by kernel_rfl) (by kernel_rfl) (by kernel_rfl) (fun _ _ _ h => h) (v := .pointer (some ⟨y, 1, none⟩)) (.inl ⟨rfl, fun w' h' => by go_simp⟩) hS ?_
      simp only [Act.put, List.setIfInBounds_toArray, List.set_cons_zero, List.set_cons_succ]
      refine wpAnyH_takeD 20 (i := 3) rfl rfl (by kernel_rfl) (by kernel_rfl) (by kernel_rfl) (fun _ _ _ h => h) (v := .int .i64 (T : Nat)) (.inl ⟨rfl, fun w' h' => by obtain ⟨h1, -⟩ := h'; go_simp⟩) hS ?_
      simp only [Act.put, List.setIfInBounds_toArray, List.set_cons_zero, List.set_cons_succ]
      have hcc_ := HRV.out
      refine wpAnyH_all (rs := [1]) (by kernel_rfl) (List.cons_ne_nil _ _) (fun i1 hi1 => ?_)
      obtain rfl := List.mem_singleton.1 hi1
      refine wpOp_enterE 18 rfl rfl rfl 43 #[.pointer (some ⟨q, 0, none⟩)] (by go_simp) (fun v w' => ∃ (sl' : Sl) (ss : List Sl), v = .slice sl'.1 sl'.2.1 sl'.2.2 ∧ OwnV w' U.drew.heap.size (.slice sl'.1 sl'.2.1 sl'.2.2) ss s.log.revs ∧ Below U.drew.heap.size U.drew w') hcc_ ?_
      intro vv2 v2 hv2
      clear hcc_
      obtain ⟨⟨Aw, nw, cw⟩, ssw, rfl, how, hbb⟩ := hv2
      have hb2 : Below U.heap.size U v2 := (Below.drew (Below.refl _ _)).trans hbb
      have how := how.base (Nat.zero_le _)
      have HV := Lib.hid how
      have hSv2 : v2.cell? ⟨y, 1, none⟩ = some (.int .i64 (T : Nat)) ∧ Below U.heap.size U v2 := ⟨(HK.out.below hb2 HK.out.lt).cell 1, hb2⟩
      clear how hbb
      simp only [Act.put, List.setIfInBounds_toArray, List.set_cons_zero, List.set_cons_succ]
      refine ⟨hSv2, ?_⟩
      have hcc_ := (by have h9 := rtext_good emp s.log.revs Aw nw cw _ T v2 HV.out.rd (Nat.le_refl _) HTE.out HTL.out; rw [HLT.out] at h9; exact h9)
      refine wpAnyH_all (rs := [4]) (by kernel_rfl) (List.cons_ne_nil _ _) (fun i4 hi4 => ?_)
      obtain rfl := List.mem_singleton.1 hi4
      refine wpOp_enter 21 rfl rfl rfl 35 #[.string ⟨#[]⟩, .slice Aw nw cw, .int .i64 (T : Nat)] (by go_simp) (.tuple #[.string LT, .int .i64 0]) (fun w' => Below v2.heap.size v2 w') hcc_ ?_
      intro v3 hv3
      simp only [Act.put, List.setIfInBounds_toArray, List.set_cons_zero, List.set_cons_succ]
      clear hcc_
      have hb3 : Below U.heap.size U v3 := hSv2.2.trans (hv3.mono hSv2.2.size)
      have hSv3 : v3.cell? ⟨y, 1, none⟩ = some (.int .i64 (T : Nat)) ∧ Below U.heap.size U v3 := ⟨(HK.out.below hb3 HK.out.lt).cell 1, hb3⟩
      clear hv3
      refine ⟨hSv3, ?_⟩
      refine wpAnyH_takeD 16 (i := 5) rfl rfl (by kernel_rfl) (by kernel_rfl) (by kernel_rfl) (fun _ _ _ h => h) (v := .tuple #[.string LT, .int .i64 0]) (.inl ⟨rfl, fun w' h' => by go_simp⟩) hSv3 ?_
      simp only [Act.put, List.setIfInBounds_toArray, List.set_cons_zero, List.set_cons_succ]
      refine wpAnyH_takeD 22 (i := 6) rfl rfl (by kernel_rfl) (by kernel_rfl) (by kernel_rfl) (fun _ _ _ h => h) (v := .string LT) (.inl ⟨rfl, fun w' h' => by go_simp⟩) hSv3 ?_
      simp only [Act.put, List.setIfInBounds_toArray, List.set_cons_zero, List.set_cons_succ]
      refine wpAnyH_takeD 23 (i := 7) rfl rfl (by kernel_rfl) (by kernel_rfl) (by kernel_rfl) (fun _ _ _ h => h) (v := .int .i64 0) (.inl ⟨rfl, fun w' h' => by go_simp⟩) hSv3 ?_
      simp only [Act.put, List.setIfInBounds_toArray, List.set_cons_zero, List.set_cons_succ]
      refine wpAnyH_takeD 7 (i := 8) rfl rfl (by kernel_rfl) (by kernel_rfl) (by kernel_rfl) (fun _ _ _ h => h) (v := .string LT) (.inl ⟨rfl, fun w' h' => by go_simp⟩) hSv3 ?_
      simp only [Act.put, List.setIfInBounds_toArray, List.set_cons_zero, List.set_cons_succ]
      refine wpAnyH_takeD 6 (i := 9) rfl rfl (by kernel_rfl) (by kernel_rfl) (by kernel_rfl) (fun _ _ _ h => h) (v := .int .i64 0) (.inl ⟨rfl, fun w' h' => by go_simp⟩) hSv3 ?_
      simp only [Act.put, List.setIfInBounds_toArray, List.set_cons_zero, List.set_cons_succ]
      refine wpAnyH_done (by kernel_rfl) ?_ _
      clear HV hb2 hS hSv2 hSv3 HRV
      have HWD_ := Lib.hid (HWD.out.below hb3)
      clear HWD
      have HWD := HWD_
      clear HWD_
      have HS_ := Lib.hid (HS.out.step hb3)
      clear HS
      have HS := HS_
      clear HS_
      have HH_ := Lib.hid (HH.out.step hb3)
      clear HH
      have HH := HH_
      clear HH_
      have HK_ := Lib.hid (HK.out.below hb3 HK.out.lt)
      clear HK
      have HK := HK_
      clear HK_
      have HW_ := Lib.hid (HW.out.trans (hb3.mono HB.out))
      clear HW
      have HW := HW_
      clear HW_
      have HB_ : Hid (B ≤ v3.heap.size) := Lib.hid (Nat.le_trans HB.out hb3.size)
      clear HB hb3
      have HB := HB_
      clear HB_
      have z4 := HK.out.cell 4
      have z5 := HK.out.cell 5
      have lz := HK.out.lt
      have hc_ := do_any x.c.sent A1 n1 c1 _ LT v3 HS.out (Nat.le_refl _) HL5.out
      rw [HD1.out.2, HD1.out.1] at hc_
      have Hc_ := Lib.hid hc_
      clear hc_
      go_wp2_with fail
      refine Hc_.out.mono ?_
      rintro en w2 ⟨rfl, hb2⟩
      clear Hc_
      have HWD_ := Lib.hid (HWD.out.below hb2)
      clear HWD
      have HWD := HWD_
      clear HWD_
      have HS_ := Lib.hid (HS.out.step hb2)
      clear HS
      have HS := HS_
      clear HS_
      have HH_ := Lib.hid (HH.out.step hb2)
      clear HH
      have HH := HH_
      clear HH_
      have HK_ := Lib.hid (HK.out.below hb2 HK.out.lt)
      clear HK
      have HK := HK_
      clear HK_
      have HW_ := Lib.hid (HW.out.trans (hb2.mono HB.out))
      clear HW
      have HW := HW_
      clear HW_
      have HB_ : Hid (B ≤ w2.heap.size) := Lib.hid (Nat.le_trans HB.out hb2.size)
      clear HB hb2
      have HB := HB_
      clear HB_
      clear z4 z5 lz
      have z6 := HK.out.cell 6
      have z3 := HK.out.cell 3
      have lz := HK.out.lt
      go_wp2_with fail
      go_ret
      exact ⟨rfl, HBw.out ▸ HW.out⟩
    | true =>
      have htx : x.c.text = D2 := by rw [hch.waits hwt, hD1, hD2]
      have hE2 := hch.held hwt
      rw [hD1] at hE2
      have HD2 := Lib.hid (And.intro hE2 hD2)
      clear h hx hsi hck hch hD1 hD2 hE1 hE2
      have HC := Lib.hid (And.intro hfl (And.intro hwt (And.intro htx hrv)))
      clear hfl hwt htx hrv
      have hc_ := wclient_B HWD.out HXX.out
      unfold clv clc at hc_
      simp only at hc_
      rw [HC.out.1, HC.out.2.1, HC.out.2.2.1, HC.out.2.2.2] at hc_
      have Hc_ := Lib.hid hc_
      clear hc_
      go_wp2_with fail
      refine Hc_.out.mono ?_
      rintro en w1 ⟨A1, n1, c1, A2, n2, c2, rfl, hso, hho, hb1⟩
      clear Hc_
      have HWD_ := Lib.hid (HWD.out.below hb1)
      clear HWD
      have HWD := HWD_
      clear HWD_
      have HW_ := Lib.hid (HW.out.trans (hb1.mono HB.out))
      clear HW
      have HW := HW_
      clear HW_
      have HB_ : Hid (B ≤ w1.heap.size) := Lib.hid (Nat.le_trans HB.out hb1.size)
      clear HB hb1
      have HB := HB_
      clear HB_
      have HS := Lib.hid (rdS_ hso HCT.out.1)
      have HH := Lib.hid (rdS_ hho HCT.out.2)
      have kz := Blk.new w1 85 #[.int .i64 x.c.who, .int .i64 (T : Nat), .int .i64 x.c.seq, .string D2, .bool true, .slice A1 n1 c1, .bool true, .slice A2 n2 c2]
      have hal := (Below.refl w1.heap.size w1).alloc (Nat.le_refl _) (.cells #[.int .i64 x.c.who, .int .i64 (T : Nat), .int .i64 x.c.seq, .string D2, .bool true, .slice A1 n1 c1, .bool true, .slice A2 n2 c2] 85)
      obtain ⟨y, hy⟩ : ∃ y, w1.heap.size = y := ⟨_, rfl⟩
      clear hso hho
      have HWD_ := Lib.hid (HWD.out.below hal)
      clear HWD
      have HWD := HWD_
      clear HWD_
      have HS_ := Lib.hid (HS.out.step hal)
      clear HS
      have HS := HS_
      clear HS_
      have HH_ := Lib.hid (HH.out.step hal)
      clear HH
      have HH := HH_
      clear HH_
      have HW_ := Lib.hid (HW.out.trans (hal.mono HB.out))
      clear HW
      have HW := HW_
      clear HW_
      have HB_ : Hid (B ≤ (w1.alloc (.cells #[.int .i64 x.c.who, .int .i64 (T : Nat), .int .i64 x.c.seq, .string D2, .bool true, .slice A1 n1 c1, .bool true, .slice A2 n2 c2] 85)).heap.size) := Lib.hid (Nat.le_trans HB.out hal.size)
      clear HB hal
      have HB := HB_
      clear HB_
      have HK := Lib.hid kz
      clear kz
      go_upto_region 4 with (fail)
      obtain ⟨U, hU⟩ : ∃ U, w1.alloc (.cells #[.int .i64 x.c.who, .int .i64 (T : Nat), .int .i64 x.c.seq, .string D2, .bool true, .slice A1 n1 c1, .bool true, .slice A2 n2 c2] 85) = U := ⟨_, rfl⟩
      rw [hU, hy] at HK
      rw [hU] at HWD HW HB HS HH
      try rw [hU]
      try rw [hy]
      clear hU hy
      have HRV := Lib.hid (wrevs_E HWD.out.drewB)
      refine wp_region_held (S := fun w' => w'.cell? ⟨y, 1, none⟩ = some (.int .i64 (T : Nat)) ∧ Below U.heap.size U w') (by kernel_rfl) ?_
      have hS : U.drew.cell? ⟨y, 1, none⟩ = some (.int .i64 (T : Nat)) ∧ Below U.heap.size U U.drew := ⟨HK.out.drew.cell 1, Below.drew (Below.refl _ _)⟩
      change wpAnyH _ _ _ _ _ _ _ _ U.drew
      refine wpAnyH_takeD 17 (i := 0) rfl rfl (by kernel_rfl) (by kernel_rfl) (by kernel_rfl) (fun _ _ _ h => h) (v := .pointer (some ⟨q, 0, none⟩)) (.inl ⟨rfl, fun w' h' => by go_simp⟩) hS ?_
      simp only [Act.put, List.setIfInBounds_toArray, List.set_cons_zero, List.set_cons_succ]
      refine wpAnyH_takeD 19 (i := 2) rfl rfl (by kernel_rfl) (by kernel_rfl) (by kernel_rfl) (fun _ _ _ h => h) (v := .pointer (some ⟨y, 1, none⟩)) (.inl ⟨rfl, fun w' h' => by go_simp⟩) hS ?_
      simp only [Act.put, List.setIfInBounds_toArray, List.set_cons_zero, List.set_cons_succ]
      refine wpAnyH_takeD 20 (i := 3) rfl rfl (by kernel_rfl) (by kernel_rfl) (by kernel_rfl) (fun _ _ _ h => h) (v := .int .i64 (T : Nat)) (.inl ⟨rfl, fun w' h' => by obtain ⟨h1, -⟩ := h'; go_simp⟩) hS ?_
      simp only [Act.put, List.setIfInBounds_toArray, List.set_cons_zero, List.set_cons_succ]
      have hcc_ := HRV.out
      refine wpAnyH_all (rs := [1]) (by kernel_rfl) (List.cons_ne_nil _ _) (fun i1 hi1 => ?_)
      obtain rfl := List.mem_singleton.1 hi1
      refine wpOp_enterE 18 rfl rfl rfl 43 #[.pointer (some ⟨q, 0, none⟩)] (by go_simp) (fun v w' => ∃ (sl' : Sl) (ss : List Sl), v = .slice sl'.1 sl'.2.1 sl'.2.2 ∧ OwnV w' U.drew.heap.size (.slice sl'.1 sl'.2.1 sl'.2.2) ss s.log.revs ∧ Below U.drew.heap.size U.drew w') hcc_ ?_
      intro vv2 v2 hv2
      clear hcc_
      obtain ⟨⟨Aw, nw, cw⟩, ssw, rfl, how, hbb⟩ := hv2
      have hb2 : Below U.heap.size U v2 := (Below.drew (Below.refl _ _)).trans hbb
      have how := how.base (Nat.zero_le _)
      have HV := Lib.hid how
      have hSv2 : v2.cell? ⟨y, 1, none⟩ = some (.int .i64 (T : Nat)) ∧ Below U.heap.size U v2 := ⟨(HK.out.below hb2 HK.out.lt).cell 1, hb2⟩
      clear how hbb
      simp only [Act.put, List.setIfInBounds_toArray, List.set_cons_zero, List.set_cons_succ]
      refine ⟨hSv2, ?_⟩
      have hcc_ := (by have h9 := rtext_good emp s.log.revs Aw nw cw _ T v2 HV.out.rd (Nat.le_refl _) HTE.out HTL.out; rw [HLT.out] at h9; exact h9)
      refine wpAnyH_all (rs := [4]) (by kernel_rfl) (List.cons_ne_nil _ _) (fun i4 hi4 => ?_)
      obtain rfl := List.mem_singleton.1 hi4
      refine wpOp_enter 21 rfl rfl rfl 35 #[.string ⟨#[]⟩, .slice Aw nw cw, .int .i64 (T : Nat)] (by go_simp) (.tuple #[.string LT, .int .i64 0]) (fun w' => Below v2.heap.size v2 w') hcc_ ?_
      intro v3 hv3
      simp only [Act.put, List.setIfInBounds_toArray, List.set_cons_zero, List.set_cons_succ]
      clear hcc_
      have hb3 : Below U.heap.size U v3 := hSv2.2.trans (hv3.mono hSv2.2.size)
      have hSv3 : v3.cell? ⟨y, 1, none⟩ = some (.int .i64 (T : Nat)) ∧ Below U.heap.size U v3 := ⟨(HK.out.below hb3 HK.out.lt).cell 1, hb3⟩
      clear hv3
      refine ⟨hSv3, ?_⟩
      refine wpAnyH_takeD 16 (i := 5) rfl rfl (by kernel_rfl) (by kernel_rfl) (by kernel_rfl) (fun _ _ _ h => h) (v := .tuple #[.string LT, .int .i64 0]) (.inl ⟨rfl, fun w' h' => by go_simp⟩) hSv3 ?_
      simp only [Act.put, List.setIfInBounds_toArray, List.set_cons_zero, List.set_cons_succ]
      refine wpAnyH_takeD 22 (i := 6) rfl rfl (by kernel_rfl) (by kernel_rfl) (by kernel_rfl) (fun _ _ _ h => h) (v := .string LT) (.inl ⟨rfl, fun w' h' => by go_simp⟩) hSv3 ?_
      simp only [Act.put, List.setIfInBounds_toArray, List.set_cons_zero, List.set_cons_succ]
      refine wpAnyH_takeD 23 (i := 7) rfl rfl (by kernel_rfl) (by kernel_rfl) (by kernel_rfl) (fun _ _ _ h => h) (v := .int .i64 0) (.inl ⟨rfl, fun w' h' => by go_simp⟩) hSv3 ?_
      simp only [Act.put, List.setIfInBounds_toArray, List.set_cons_zero, List.set_cons_succ]
      refine wpAnyH_takeD 7 (i := 8) rfl rfl (by kernel_rfl) (by kernel_rfl) (by kernel_rfl) (fun _ _ _ h => h) (v := .string LT) (.inl ⟨rfl, fun w' h' => by go_simp⟩) hSv3 ?_
      simp only [Act.put, List.setIfInBounds_toArray, List.set_cons_zero, List.set_cons_succ]
      refine wpAnyH_takeD 6 (i := 9) rfl rfl (by kernel_rfl) (by kernel_rfl) (by kernel_rfl) (fun _ _ _ h => h) (v := .int .i64 0) (.inl ⟨rfl, fun w' h' => by go_simp⟩) hSv3 ?_
      simp only [Act.put, List.setIfInBounds_toArray, List.set_cons_zero, List.set_cons_succ]
      refine wpAnyH_done (by kernel_rfl) ?_ _
      clear HV hb2 hS hSv2 hSv3 HRV
      have HWD_ := Lib.hid (HWD.out.below hb3)
      clear HWD
      have HWD := HWD_
      clear HWD_
      have HS_ := Lib.hid (HS.out.step hb3)
      clear HS
      have HS := HS_
      clear HS_
      have HH_ := Lib.hid (HH.out.step hb3)
      clear HH
      have HH := HH_
      clear HH_
      have HK_ := Lib.hid (HK.out.below hb3 HK.out.lt)
      clear HK
      have HK := HK_
      clear HK_
      have HW_ := Lib.hid (HW.out.trans (hb3.mono HB.out))
      clear HW
      have HW := HW_
      clear HW_
      have HB_ : Hid (B ≤ v3.heap.size) := Lib.hid (Nat.le_trans HB.out hb3.size)
      clear HB hb3
      have HB := HB_
      clear HB_
      have z4 := HK.out.cell 4
      have z5 := HK.out.cell 5
      have lz := HK.out.lt
      have hc_ := do_any x.c.sent A1 n1 c1 _ LT v3 HS.out (Nat.le_refl _) HL5.out
      rw [HD1.out.2, HD1.out.1] at hc_
      have Hc_ := Lib.hid hc_
      clear hc_
      go_wp2_with fail
      refine Hc_.out.mono ?_
      rintro en w2 ⟨rfl, hb2⟩
      clear Hc_
      have HWD_ := Lib.hid (HWD.out.below hb2)
      clear HWD
      have HWD := HWD_
      clear HWD_
      have HS_ := Lib.hid (HS.out.step hb2)
      clear HS
      have HS := HS_
      clear HS_
      have HH_ := Lib.hid (HH.out.step hb2)
      clear HH
      have HH := HH_
      clear HH_
      have HK_ := Lib.hid (HK.out.below hb2 HK.out.lt)
      clear HK
      have HK := HK_
      clear HK_
      have HW_ := Lib.hid (HW.out.trans (hb2.mono HB.out))
      clear HW
      have HW := HW_
      clear HW_
      have HB_ : Hid (B ≤ w2.heap.size) := Lib.hid (Nat.le_trans HB.out hb2.size)
      clear HB hb2
      have HB := HB_
      clear HB_
      clear z4 z5 lz
      have z6 := HK.out.cell 6
      have z7 := HK.out.cell 7
      have lz := HK.out.lt
      have hc_ := do_any x.c.held A2 n2 c2 _ D1 w2 HH.out (Nat.le_refl _) HL6.out
      rw [HD2.out.2, HD2.out.1] at hc_
      have Hc_ := Lib.hid hc_
      clear hc_
      go_wp2_with fail
      refine Hc_.out.mono ?_
      rintro en w3 ⟨rfl, hb3⟩
      clear Hc_
      have HWD_ := Lib.hid (HWD.out.below hb3)
      clear HWD
      have HWD := HWD_
      clear HWD_
      have HS_ := Lib.hid (HS.out.step hb3)
      clear HS
      have HS := HS_
      clear HS_
      have HH_ := Lib.hid (HH.out.step hb3)
      clear HH
      have HH := HH_
      clear HH_
      have HK_ := Lib.hid (HK.out.below hb3 HK.out.lt)
      clear HK
      have HK := HK_
      clear HK_
      have HW_ := Lib.hid (HW.out.trans (hb3.mono HB.out))
      clear HW
      have HW := HW_
      clear HW_
      have HB_ : Hid (B ≤ w3.heap.size) := Lib.hid (Nat.le_trans HB.out hb3.size)
      clear HB hb3
      have HB := HB_
      clear HB_
      clear z6 z7 lz
      have z6 := HK.out.cell 6
      have z3 := HK.out.cell 3
      have lz := HK.out.lt
      go_wp2_with fail
      go_ret
      exact ⟨rfl, HBw.out ▸ HW.out⟩
end Go.Proofs.Ytmnnaemcjmiplaa
namespace Go.Proofs.Ytmnnaemcjmiplaa
open Go.ChangeShapes Go.WideShapes Go.RowKit
set_option linter.unusedVariables false
set_option linter.unusedSimpArgs false
set_option maxRecDepth 100000
set_option maxHeartbeats 1000000
theorem walk_WorldHolds (n : Int) (wn : (Lit.int .i64 n).wf = true) (v1 : Value) (l : List (List Int)) (v2 : Value) (ds : List (List Pt)) (w : World) (hl : IsRows w v1 l) (hd : IsDeltas w v2 ds) :
    Calls Try.prog 8 #[.int .i64 n, v1, v2] w fun e w' => e = .returned (.bool true) ∧ Below w.heap.size w w' := by
  obtain ⟨Al, nl, cl, sl, rfl, hrs, hrl⟩ := hl
  obtain ⟨Ad, nd, cd, sd, rfl, hds, hdd⟩ := hd
  obtain ⟨B, hB⟩ : ∃ B, w.heap.size = B := ⟨_, rfl⟩
  rw [hB] at hrs hrl hds hdd
  have HRS := Lib.hid hrs
  have HRL := Lib.hid hrl
  have HDS := Lib.hid hds
  have HDD := Lib.hid hdd
  have HBw := Lib.hid hB
  have HB : Hid (B ≤ w.heap.size) := Lib.hid (by omega)
  have HW : Hid (Below B w w) := Lib.hid (Below.refl _ _)
  have hnl0 : (0 : Int) ≤ (nl : Int) := by omega
  have hnd0 : (0 : Int) ≤ (nd : Int) := by omega
  have hnlc : nl ≤ cl ∧ cl ≤ maxLen := ⟨hrs.2.1, hrs.2.2.1⟩
  have hndc : nd ≤ cd ∧ cd ≤ maxLen := ⟨hds.2.1, hds.2.2.1⟩
  have hcl1 : (nl : Int) ≤ (cl : Int) := by omega
  have hcl2 : (cl : Int) ≤ 9223372036854775807 := by have := hnlc.2; simp only [maxLen] at this; omega
  have hcd1 : (nd : Int) ≤ (cd : Int) := by omega
  have hcd2 : (cd : Int) ≤ 9223372036854775807 := by have := hndc.2; simp only [maxLen] at this; omega
  clear hrs hrl hds hdd hB hnlc hndc
  go_enter Try.func8, Try.ntmps8
  obtain ⟨m, hm⟩ : ∃ m, wi n 4 = m := ⟨_, rfl⟩
  have hm4 : m < 4 := by rw [← hm]; exact wi_lt n 4 (by decide)
  have hc_ := within_any n 4 w (by decide) (by decide)
  rw [hm] at hc_
  have Hc_ := Lib.hid hc_
  clear hc_ hm
  go_wp2_with fail
  refine Hc_.out.mono ?_
  rintro en w9 ⟨rfl, rfl⟩
  clear Hc_
  obtain ⟨N, hN⟩ : ∃ N, 1 + m = N := ⟨_, rfl⟩
  have hNc : IntKind.i64.wrap (1 + (m : Int)) = (N : Int) := by rw [← hN]; exact IntWalk.i64_in _ (by omega) |>.trans (by omega)
  have hN1 : 1 ≤ N := by omega
  have hN4 : N ≤ 4 := by omega
  clear hN hm4
  have hc_ := wnew_B (B := B) N hN1 hN4 w HB.out
  have Hc_ := Lib.hid hc_
  clear hc_
  go_wp2_with fail
  refine Hc_.out.mono ?_
  rintro en w1 ⟨q, rfl, hwd, hb1⟩
  clear Hc_
  have HN := Lib.hid hwd
  have HZ : Hid (w1.heap.size ≤ w1.heap.size) := Lib.hid (Nat.le_refl _)
  obtain ⟨Z, hZ⟩ : ∃ Z, w1.heap.size = Z := ⟨_, rfl⟩
  rw [hZ] at HN
  have HZ : Hid (Z ≤ w1.heap.size) := Lib.hid (Nat.le_of_eq hZ.symm)
  clear hwd hZ
  have HW_ := Lib.hid (HW.out.trans (hb1.mono HB.out))
  clear HW
  have HW := HW_
  clear HW_
  have HB_ : Hid (B ≤ w1.heap.size) := Lib.hid (Nat.le_trans HB.out hb1.size)
  clear HB hb1
  have HB := HB_
  clear HB_
  have hc_ := wcalm_T (B := B) (HN.out.mono (fun k _ hk => hk.1)) (calm_new N)
  have Hc_ := Lib.hid hc_
  clear hc_
  go_wp2_with fail
  refine Hc_.out.mono ?_
  rintro en w2 ⟨rfl, hb2⟩
  clear Hc_
  have HN_ := Lib.hid (HN.out.below hb2)
  clear HN
  have HN := HN_
  clear HN_
  have HZ_ := Lib.hid (Nat.le_trans HZ.out (hb2.size))
  clear HZ
  have HZ := HZ_
  clear HZ_
  have HW_ := Lib.hid (HW.out.trans (hb2.mono HB.out))
  clear HW
  have HW := HW_
  clear HW_
  have HB_ : Hid (B ≤ w2.heap.size) := Lib.hid (Nat.le_trans HB.out hb2.size)
  clear HB hb2
  have HB := HB_
  clear HB_
  have hc_ := wput_any ⟨#[97]⟩ (by decide) w2
  have Hc_ := Lib.hid hc_
  clear hc_
  go_wp2_with fail
  refine Hc_.out.mono ?_
  rintro en w3 ⟨Aa, rfl, hra, hza, hb3⟩
  clear Hc_
  have HRA := Lib.hid hra
  have HZA : Hid (∀ ad, Aa = some ad → Z ≤ ad.block) := Lib.hid (fun ad e => Nat.le_trans HZ.out (hza ad e))
  clear hra hza
  have HN_ := Lib.hid (HN.out.below hb3)
  clear HN
  have HN := HN_
  clear HN_
  have HZ_ := Lib.hid (Nat.le_trans HZ.out (hb3.size))
  clear HZ
  have HZ := HZ_
  clear HZ_
  have HW_ := Lib.hid (HW.out.trans (hb3.mono HB.out))
  clear HW
  have HW := HW_
  clear HW_
  have HB_ : Hid (B ≤ w3.heap.size) := Lib.hid (Nat.le_trans HB.out hb3.size)
  clear HB hb3
  have HB := HB_
  clear HB_
  have hc_ := wfirst_B N hN1 HN.out HB.out ⟨#[97]⟩ (by decide) Aa 1 1 HRA.out HZA.out chk_a (by rw [nP_a]; decide)
  rw [nP_a] at hc_
  have Hc_ := Lib.hid hc_
  clear hc_
  go_wp2_with fail
  refine Hc_.out.mono ?_
  rintro en w4 ⟨rfl, hwd0, hb2⟩
  have hwd : WdB w4 B q shN (X0 N) 1 1 (fun k => if k = 0 then 1 else 0) := hwd0
  clear hwd0
  clear Hc_
  have HWD := Lib.hid hwd
  clear hwd
  have HW_ := Lib.hid (HW.out.trans hb2)
  clear HW
  have HW := HW_
  clear HW_
  have HB_ : Hid (B ≤ w4.heap.size) := Lib.hid (Nat.le_trans HB.out hb2.size)
  clear HB hb2
  have HB := HB_
  clear HB_
  clear HN HRA HZA HZ
  have hc_ := wcalm_F HWD.out (ncalm_first N hN1)
  have Hc_ := Lib.hid hc_
  clear hc_
  go_wp2_with fail
  refine Hc_.out.mono ?_
  rintro en w5 ⟨rfl, hb5⟩
  clear Hc_
  have HWD_ := Lib.hid (HWD.out.below hb5)
  clear HWD
  have HWD := HWD_
  clear HWD_
  have HW_ := Lib.hid (HW.out.trans (hb5.mono HB.out))
  clear HW
  have HW := HW_
  clear HW_
  have HB_ : Hid (B ≤ w5.heap.size) := Lib.hid (Nat.le_trans HB.out hb5.size)
  clear HB hb5
  have HB := HB_
  clear HB_
  go_upto_region 6 with (fail)
  have HX : Hid ((X0 N).length = N) := Lib.hid (X0_len N)
  go_loopw [9, 10, 11, 12, 44] (fun x9 x10 x11 x12 iv wr => ∃ (k : Nat) (s : Sh) (X : List St) (put edits : Int) (e : Nat → Nat), k ≤ nl ∧ iv = .int .i64 k ∧ Hid (WdB wr B q s X put edits e) ∧ Hid (X.length = N) ∧ Hid (Below B w wr) ∧ Hid (B ≤ wr.heap.size)) (fun _ _ _ _ iv _ => nl - (intOf iv).toNat)
  case atStart => exact ⟨0, _, _, _, _, _, by omega, rfl, HWD, HX, HW, HB⟩
  case round =>
    clear HWD HX HW HB
    obtain ⟨k, s, X, put, edits, e, hk, rfl, HWD, HX, HW, HB⟩ := hrel
    by_cases hlt : k < nl
    · skip
      have hk0 : (0 : Int) ≤ (k : Int) := by omega
      have hkn : (k : Int) < (nl : Int) := by omega
      have hsll : sl.length = nl := HRS.out.1.symm
      have hll : l.length = nl := by rw [← hsll]; exact HRL.out.1.symm
      obtain ⟨sk, hsk⟩ : ∃ sk, sl[k]? = some sk := ⟨_, List.getElem?_eq_getElem (by omega)⟩
      obtain ⟨cs, hcs⟩ : ∃ cs, l[k]? = some cs := ⟨_, List.getElem?_eq_getElem (by omega)⟩
      obtain ⟨bk, ok, hAl, hbk, dk⟩ := (HRS.out.below HW.out).at_ hsk
      subst hAl
      have hbk' : bk < wr.heap.size := Nat.lt_of_lt_of_le hbk HB.out
      have hrow := HRL.out.2 k sk cs hsk hcs
      obtain ⟨Ac, nc, cc⟩ := sk
      simp only at hrow dk
      have HRW := Lib.hid hrow
      have hnc0 : (0 : Int) ≤ (nc : Int) := by omega
      have HNC : Hid (nc = cs.length) := Lib.hid hrow.1
      clear hsll hll hsk hcs hrow
      by_cases hkd : k < nd
      · skip
        have hkd' : (k : Int) < (nd : Int) := by omega
        have hsdl : sd.length = nd := HDS.out.1.symm
        have hdl : ds.length = nd := by rw [← hsdl]; exact HDD.out.1.symm
        obtain ⟨tk, htk⟩ : ∃ tk, sd[k]? = some tk := ⟨_, List.getElem?_eq_getElem (by omega)⟩
        obtain ⟨d, hdk⟩ : ∃ d, ds[k]? = some d := ⟨_, List.getElem?_eq_getElem (by omega)⟩
        obtain ⟨be, oe, hAd, hbe, de⟩ := (HDS.out.below HW.out).at_ htk
        subst hAd
        have hbe' : be < wr.heap.size := Nat.lt_of_lt_of_le hbe HB.out
        have hdel := HDD.out.2 k tk d htk hdk
        obtain ⟨Ae, ne, ce⟩ := tk
        simp only at hdel de
        have HDL := Lib.hid hdel
        have hne0 : (0 : Int) ≤ (ne : Int) := by omega
        have hnec : ne ≤ ce ∧ ce ≤ maxLen := ⟨hdel.2.1.1, hdel.2.1.2.1⟩
        have hce1 : (ne : Int) ≤ (ce : Int) := by omega
        have hce2 : (ce : Int) ≤ 9223372036854775807 := by have := hnec.2; simp only [maxLen] at this; omega
        have HTK := Lib.hid htk
        clear hsdl hdl hdk hdel hnec
        have hc_ := act_B HWD.out HB.out cs Ac nc cc (HRW.out.below HW.out) d Ae ne ce (HDL.out.below HW.out)
        rw [HX.out] at hc_
        have Hc_ := Lib.hid hc_
        clear hc_
        go_wp2_with fail
        refine Hc_.out.mono ?_
        rintro en w46 ⟨rfl, s2, X2, put2, ed2, e2, hact, hwd, hb2⟩
        have HX2 : Hid (X2.length = N) := Lib.hid (by rw [hact.len]; exact HX.out)
        clear hact
        clear Hc_
        clear HWD
        have HWD := Lib.hid hwd
        clear hwd
        have HW_ := Lib.hid (HW.out.trans hb2)
        clear HW
        have HW := HW_
        clear HW_
        have HB_ : Hid (B ≤ w46.heap.size) := Lib.hid (Nat.le_trans HB.out hb2.size)
        clear HB hb2
        have HB := HB_
        clear HB_
        go_upto_region 13 with (fail)
        go_loopw [12, 63] (fun x12 iv wr => ∃ (i : Nat), i ≤ N ∧ iv = .int .i64 i ∧ Hid (WdB wr B q s2 X2 put2 ed2 e2) ∧ Hid (Below B w wr) ∧ Hid (B ≤ wr.heap.size)) (fun _ iv _ => N - (intOf iv).toNat)
        case atStart => exact ⟨0, by omega, rfl, HWD, HW, HB⟩
        case round =>
          clear HWD HW HB
          obtain ⟨i, hi, rfl, HWD, HW, HB⟩ := hrel
          by_cases hit : i < N
          · skip
            have hi0 : (0 : Int) ≤ (i : Int) := by omega
            have hiN : (i : Int) < (N : Int) := by omega
            obtain ⟨x, hx⟩ : ∃ x, X2[i]? = some x := ⟨_, List.getElem?_eq_getElem (by rw [HX2.out]; exact hit)⟩
            have HXX := Lib.hid hx
            clear hx
            have hc_ := held_B HWD.out HB.out HXX.out
            have Hc_ := Lib.hid hc_
            clear hc_
            go_wp2_with fail
            refine Hc_.out.mono ?_
            rintro en w67 ⟨rfl, hb67⟩
            clear Hc_
            have HWD_ := Lib.hid (HWD.out.below hb67)
            clear HWD
            have HWD := HWD_
            clear HWD_
            have HW_ := Lib.hid (HW.out.trans (hb67.mono HB.out))
            clear HW
            have HW := HW_
            clear HW_
            have HB_ : Hid (B ≤ w67.heap.size) := Lib.hid (Nat.le_trans HB.out hb67.size)
            clear HB hb67
            have HB := HB_
            clear HB_
            go_wp2_with fail
            go_roundw
            case rel => exact ⟨i + 1, by omega, by go_num, HWD, HW, HB⟩
            case measure => simp [intOf]; omega
          · skip
            obtain rfl : i = N := by omega
            go_wp2_with fail
            go_roundw
            case rel => exact ⟨k + 1, s2, X2, _, ed2, e2, by omega, by go_num, HWD, HX2, HW, HB⟩
            case measure => simp [intOf]; omega
      · skip
        have hkd' : (nd : Int) ≤ (k : Int) := by omega
        have hc_ := act_B HWD.out HB.out cs Ac nc cc (HRW.out.below HW.out) [] none 0 0 ⟨rfl, Rd.nil _ _ _, by simp⟩
        rw [HX.out] at hc_
        have Hc_ := Lib.hid hc_
        clear hc_
        go_wp2_with fail
        refine Hc_.out.mono ?_
        rintro en w46 ⟨rfl, s2, X2, put2, ed2, e2, hact, hwd, hb2⟩
        have HX2 : Hid (X2.length = N) := Lib.hid (by rw [hact.len]; exact HX.out)
        clear hact
        clear Hc_
        clear HWD
        have HWD := Lib.hid hwd
        clear hwd
        have HW_ := Lib.hid (HW.out.trans hb2)
        clear HW
        have HW := HW_
        clear HW_
        have HB_ : Hid (B ≤ w46.heap.size) := Lib.hid (Nat.le_trans HB.out hb2.size)
        clear HB hb2
        have HB := HB_
        clear HB_
        go_upto_region 13 with (fail)
        go_loopw [12, 63] (fun x12 iv wr => ∃ (i : Nat), i ≤ N ∧ iv = .int .i64 i ∧ Hid (WdB wr B q s2 X2 put2 ed2 e2) ∧ Hid (Below B w wr) ∧ Hid (B ≤ wr.heap.size)) (fun _ iv _ => N - (intOf iv).toNat)
        case atStart => exact ⟨0, by omega, rfl, HWD, HW, HB⟩
        case round =>
          clear HWD HW HB
          obtain ⟨i, hi, rfl, HWD, HW, HB⟩ := hrel
          by_cases hit : i < N
          · skip
            have hi0 : (0 : Int) ≤ (i : Int) := by omega
            have hiN : (i : Int) < (N : Int) := by omega
            obtain ⟨x, hx⟩ : ∃ x, X2[i]? = some x := ⟨_, List.getElem?_eq_getElem (by rw [HX2.out]; exact hit)⟩
            have HXX := Lib.hid hx
            clear hx
            have hc_ := held_B HWD.out HB.out HXX.out
            have Hc_ := Lib.hid hc_
            clear hc_
            go_wp2_with fail
            refine Hc_.out.mono ?_
            rintro en w67 ⟨rfl, hb67⟩
            clear Hc_
            have HWD_ := Lib.hid (HWD.out.below hb67)
            clear HWD
            have HWD := HWD_
            clear HWD_
            have HW_ := Lib.hid (HW.out.trans (hb67.mono HB.out))
            clear HW
            have HW := HW_
            clear HW_
            have HB_ : Hid (B ≤ w67.heap.size) := Lib.hid (Nat.le_trans HB.out hb67.size)
            clear HB hb67
            have HB := HB_
            clear HB_
            go_wp2_with fail
            go_roundw
            case rel => exact ⟨i + 1, by omega, by go_num, HWD, HW, HB⟩
            case measure => simp [intOf]; omega
          · skip
            obtain rfl : i = N := by omega
            go_wp2_with fail
            go_roundw
            case rel => exact ⟨k + 1, s2, X2, _, ed2, e2, by omega, by go_num, HWD, HX2, HW, HB⟩
            case measure => simp [intOf]; omega
    · skip
      have hkn : k = nl := by omega
      subst hkn
      go_wp2_with fail
      go_ret
      exact ⟨rfl, HBw.out ▸ HW.out⟩
end Go.Proofs.Ytmnnaemcjmiplaa
