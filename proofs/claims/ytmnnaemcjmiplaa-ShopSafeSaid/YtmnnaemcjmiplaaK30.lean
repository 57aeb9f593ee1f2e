/- Contract of shop.Step, as a whole move takes the log's place. The frames of a slot: a head, revisions, Done, revisions; what a cut leaves of them (pure). The archive with its moves: what always holds of it, and what Add, Keep, Step, Sync make of that (pure). -/
import Derived.Test.YtmnnaemcjmiplaaK29
namespace Go.Proofs.Ytmnnaemcjmiplaa
open Go.ChangeShapes Go.WideShapes Go.RowKit
set_option linter.unusedVariables false
set_option linter.unusedSimpArgs false
set_option maxRecDepth 100000
set_option maxHeartbeats 4000000

/-- a slot of an archive, by its number -/
def slotOf (s : Sh) (i : Nat) : Slt := if i = 0 then s.d0 else s.d1
theorem shc_slot (s : Sh) (sl : Sl) (mp : Option Addr) (i : Nat) (hi : i < 2) : (shc s sl mp)[i * 2]? = some (.string (slotOf s i).1) := by
  rcases i with _ | _ | i
  · rfl
  · rfl
  · omega
theorem slot_sync (s : Sh) (i j : Nat) : (slotOf (syncSh s i) j).1 = (slotOf s j).1 := by
  unfold slotOf syncSh dsyn
  split <;> split <;> rfl
theorem sstep_swap (q : Nat) (s : Sh) (sl : Sl) (ss : List Sl) (g fl : Nat) (cp : Int) (fs : List Fm) (l2 : Lg) (w : World) (h : ShR w q s sl ss (some ⟨g, 0, none⟩)) (hm : Blk w g 116 #[.int .i64 fl, .int .i64 cp, .bool true]) (h8 : Lg8 s.log) (hat : s.at_ ≤ 1) (hcp : 0 ≤ cp) (hok : ∀ p ∈ fs, okF p) (hfl : (slotOf s (1 - s.at_)).1.data.toList = flat fs) (hE : hotE fs = 0) (hL : hotL fs = l2) (h82 : Lg8 l2) (hb0 : 0 ≤ l2.base) (hb1 : l2.base ≤ 2147483647) (hr : l2.revs.length ≤ 1000) (hl : dlook s.d0 s.d1 ((1 - s.at_ : Nat) : Int) = 0) :
    Calls Try.prog 26 #[.pointer (some ⟨q, 0, none⟩)] w fun e w' => e = .returned (.bool true) ∧ ∃ (sl2 : Sl) (ss2 : List Sl), ShR w' q { syncSh s ((1 - s.at_ : Nat) : Int) with log := l2, safe := l2.base + l2.revs.length, at_ := 1 - s.at_, old := true } sl2 ss2 none ∧ (∀ k, (Value.slice sl2.1 sl2.2.1 sl2.2.2).ownBlock = some k → w.heap.size ≤ k) ∧ (∀ d ∈ ss2, ∀ k, (Value.slice d.1 d.2.1 d.2.2).ownBlock = some k → w.heap.size ≤ k) ∧ Only w w' (fun k => k = q) := by
  obtain ⟨AT, hAT⟩ : ∃ AT, s.at_ = AT := ⟨_, rfl⟩
  obtain ⟨OA, hOA⟩ : ∃ OA : Nat, 1 - AT = OA := ⟨_, rfl⟩
  rw [hAT] at hat
  have hwr : IntKind.i64.wrap (1 - (AT : Int)) = (OA : Int) := by rw [show 1 - (AT : Int) = (OA : Int) by omega]; exact IntWalk.i64_in _ (by omega)
  have HAT := Lib.hid hAT
  have HOA := Lib.hid hOA
  clear hAT hOA hat
  rw [HAT.out, HOA.out] at hl hfl ⊢
  have hOA2 : OA < 2 := by have := HOA.out; omega
  have hO0 : (0 : Int) ≤ (OA : Int) := by omega
  have hO2 : (OA : Int) < 2 := by omega
  have hdc : decide (cp < 0) = false := decide_eq_false (by omega)
  obtain ⟨DT, hDT⟩ : ∃ DT, (slotOf s OA).1 = DT := ⟨_, rfl⟩
  rw [hDT] at hfl
  have hDs : DT.size ≤ 1048576 := by
    obtain ⟨_, h1, h2, _⟩ := dlook_zero _ _ _ hl
    rw [← hDT]
    unfold slotOf
    split <;> omega
  have hfn : fs.length ≤ 5864062014636 := by
    have h1 := flat_frames fs
    have h2 : DT.data.toList.length = DT.size := rfl
    rw [hfl] at h2
    omega
  have hrd := fun w => hread_fs DT fs [] hok (by rw [List.append_nil]; exact hfl) gf_nil hfn (by omega) w
  rw [hE, hL] at hrd
  have Hrd := Lib.hid hrd
  have hc : Calls Try.prog 67 #[.pointer (some ⟨q, 0, none⟩), .int .i64 (OA : Int)] w fun e w' => e = .returned (.tuple #[]) ∧ Blk w' q 108 (shc (syncSh s OA) sl (some ⟨g, 0, none⟩)) ∧ Only w w' (fun k => k = q) := ssync_any q s sl (some ⟨g, 0, none⟩) OA w h.k hl
  have Hc := Lib.hid hc
  have HDT := Lib.hid hDT
  have HLK := Lib.hid hl
  clear hc hrd hfn hDs hE hL hok hfl hl hDT hcp
  have c4 : w.cell? ⟨q, 4, none⟩ = some (.int .i64 (AT : Int)) := (h.k.cell 4).trans (shc_at.trans (by rw [← HAT.out]))
  have c45 : w.cell? ⟨q, 45, none⟩ = some (.pointer (some ⟨g, 0, none⟩)) := (h.k.cell 45).trans (shc_mv h8)
  have lq := h.k.lt
  have m0 : w.cell? ⟨g, 0, none⟩ = some (.int .i64 fl) := hm.cell 0
  have m1 : w.cell? ⟨g, 1, none⟩ = some (.int .i64 cp) := hm.cell 1
  have m2 : w.cell? ⟨g, 2, none⟩ = some (.bool true) := hm.cell 2
  have lg := hm.lt
  have H := Lib.hid h
  have Hm := Lib.hid hm
  clear h hm
  go_enter Try.func26, Try.ntmps26
  go_upto_region 18 with (fail)
  have o0 := Only.refl w (fun k => k = q)
  refine wp_region_held (S := fun w' => w'.cell? ⟨g, 2, none⟩ = some (.bool true) ∧ g < w'.heap.size) (by kernel_rfl) ?_
  have hS : w.drew.cell? ⟨g, 2, none⟩ = some (.bool true) ∧ g < w.drew.heap.size := ⟨m2, lg⟩
  change wpAnyH _ _ _ _ _ _ _ _ w.drew
  refine wpAnyH_takeD 119 (i := 0) rfl rfl (by kernel_rfl) (by kernel_rfl) (by kernel_rfl) (fun _ _ _ h => h) (v := .pointer (some ⟨g, 0, none⟩)) (.inl ⟨rfl, fun w' h' => by go_simp⟩) hS ?_
  simp only [Act.put, List.setIfInBounds_toArray, List.set_cons_zero, List.set_cons_succ]
  refine wpAnyH_takeD 120 (i := 1) rfl rfl (by kernel_rfl) (by kernel_rfl) (by kernel_rfl) (fun _ _ _ h => h) (v := .pointer (some ⟨g, 0, none⟩)) (.inl ⟨rfl, fun w' h' => by go_simp⟩) hS ?_
  simp only [Act.put, List.setIfInBounds_toArray, List.set_cons_zero, List.set_cons_succ]
  refine wpAnyH_takeD 121 (i := 2) rfl rfl (by kernel_rfl) (by kernel_rfl) (by kernel_rfl) (fun _ _ _ h => h) (v := .pointer (some ⟨g, 2, none⟩)) (.inl ⟨rfl, fun w' h' => by go_simp⟩) hS ?_
  simp only [Act.put, List.setIfInBounds_toArray, List.set_cons_zero, List.set_cons_succ]
  refine wpAnyH_takeD 122 (i := 3) rfl rfl (by kernel_rfl) (by kernel_rfl) (by kernel_rfl) (fun _ _ _ h => h) (v := .bool true) (.inl ⟨rfl, fun w' h' => by obtain ⟨h1, h2⟩ := h'; go_simp⟩) hS ?_
  simp only [Act.put, List.setIfInBounds_toArray, List.set_cons_zero, List.set_cons_succ]
  refine wpAnyH_takeD 123 (i := 4) rfl rfl (by kernel_rfl) (by kernel_rfl) (by kernel_rfl) (fun _ _ _ h => h) (v := .bool false) (.inl ⟨rfl, fun w' h' => by go_simp⟩) hS ?_
  simp only [Act.put, List.setIfInBounds_toArray, List.set_cons_zero, List.set_cons_succ]
  refine wpAnyH_takeD 124 (i := 5) rfl rfl (by kernel_rfl) (by kernel_rfl) (by kernel_rfl) (fun _ _ _ h => h) (v := .bool false) (.inl ⟨rfl, fun w' h' => by go_simp⟩) hS ?_
  simp only [Act.put, List.setIfInBounds_toArray, List.set_cons_zero, List.set_cons_succ]
  refine wpAnyH_takeD 125 (i := 6) rfl rfl (by kernel_rfl) (by kernel_rfl) (by kernel_rfl) (fun _ _ _ h => h) (v := undef) (.inr ⟨rfl, rfl⟩) hS ?_
  simp only [Act.put, List.setIfInBounds_toArray, List.set_cons_zero, List.set_cons_succ]
  refine wpAnyH_takeD 126 (i := 7) rfl rfl (by kernel_rfl) (by kernel_rfl) (by kernel_rfl) (fun _ _ _ h => h) (v := undef) (.inr ⟨rfl, rfl⟩) hS ?_
  simp only [Act.put, List.setIfInBounds_toArray, List.set_cons_zero, List.set_cons_succ]
  refine wpAnyH_takeD 127 (i := 8) rfl rfl (by kernel_rfl) (by kernel_rfl) (by kernel_rfl) (fun _ _ _ h => h) (v := undef) (.inr ⟨rfl, rfl⟩) hS ?_
  simp only [Act.put, List.setIfInBounds_toArray, List.set_cons_zero, List.set_cons_succ]
  refine wpAnyH_takeD 128 (i := 9) rfl rfl (by kernel_rfl) (by kernel_rfl) (by kernel_rfl) (fun _ _ _ h => h) (v := undef) (.inr ⟨rfl, rfl⟩) hS ?_
  simp only [Act.put, List.setIfInBounds_toArray, List.set_cons_zero, List.set_cons_succ]
  refine wpAnyH_takeD 129 (i := 10) rfl rfl (by kernel_rfl) (by kernel_rfl) (by kernel_rfl) (fun _ _ _ h => h) (v := undef) (.inr ⟨rfl, rfl⟩) hS ?_
  simp only [Act.put, List.setIfInBounds_toArray, List.set_cons_zero, List.set_cons_succ]
  refine wpAnyH_takeD 130 (i := 11) rfl rfl (by kernel_rfl) (by kernel_rfl) (by kernel_rfl) (fun _ _ _ h => h) (v := undef) (.inr ⟨rfl, rfl⟩) hS ?_
  simp only [Act.put, List.setIfInBounds_toArray, List.set_cons_zero, List.set_cons_succ]
  refine wpAnyH_takeD 131 (i := 12) rfl rfl (by kernel_rfl) (by kernel_rfl) (by kernel_rfl) (fun _ _ _ h => h) (v := undef) (.inr ⟨rfl, rfl⟩) hS ?_
  simp only [Act.put, List.setIfInBounds_toArray, List.set_cons_zero, List.set_cons_succ]
  refine wpAnyH_takeD 132 (i := 13) rfl rfl (by kernel_rfl) (by kernel_rfl) (by kernel_rfl) (fun _ _ _ h => h) (v := undef) (.inr ⟨rfl, rfl⟩) hS ?_
  simp only [Act.put, List.setIfInBounds_toArray, List.set_cons_zero, List.set_cons_succ]
  refine wpAnyH_takeD 133 (i := 14) rfl rfl (by kernel_rfl) (by kernel_rfl) (by kernel_rfl) (fun _ _ _ h => h) (v := undef) (.inr ⟨rfl, rfl⟩) hS ?_
  simp only [Act.put, List.setIfInBounds_toArray, List.set_cons_zero, List.set_cons_succ]
  refine wpAnyH_takeD 134 (i := 15) rfl rfl (by kernel_rfl) (by kernel_rfl) (by kernel_rfl) (fun _ _ _ h => h) (v := undef) (.inr ⟨rfl, rfl⟩) hS ?_
  simp only [Act.put, List.setIfInBounds_toArray, List.set_cons_zero, List.set_cons_succ]
  refine wpAnyH_takeD 135 (i := 16) rfl rfl (by kernel_rfl) (by kernel_rfl) (by kernel_rfl) (fun _ _ _ h => h) (v := undef) (.inr ⟨rfl, rfl⟩) hS ?_
  simp only [Act.put, List.setIfInBounds_toArray, List.set_cons_zero, List.set_cons_succ]
  refine wpAnyH_takeD 136 (i := 17) rfl rfl (by kernel_rfl) (by kernel_rfl) (by kernel_rfl) (fun _ _ _ h => h) (v := undef) (.inr ⟨rfl, rfl⟩) hS ?_
  simp only [Act.put, List.setIfInBounds_toArray, List.set_cons_zero, List.set_cons_succ]
  refine wpAnyH_takeD 137 (i := 18) rfl rfl (by kernel_rfl) (by kernel_rfl) (by kernel_rfl) (fun _ _ _ h => h) (v := .bool false) (.inl ⟨rfl, fun w' h' => by go_simp⟩) hS ?_
  simp only [Act.put, List.setIfInBounds_toArray, List.set_cons_zero, List.set_cons_succ]
  refine wpAnyH_takeD 118 (i := 19) rfl rfl (by kernel_rfl) (by kernel_rfl) (by kernel_rfl) (fun _ _ _ h => h) (v := .bool false) (.inl ⟨rfl, fun w' h' => by go_simp⟩) hS ?_
  simp only [Act.put, List.setIfInBounds_toArray, List.set_cons_zero, List.set_cons_succ]
  refine wpAnyH_done (by kernel_rfl) ?_ _
  have hd := H.out.below (Below.drew (Below.refl w.heap.size w))
  have kd := Hm.out.drew
  have od : Only w w.drew (fun k => k = q) := Only.drew _
  have Hcd : Hid (Calls Try.prog 67 #[.pointer (some ⟨q, 0, none⟩), .int .i64 (OA : Int)] w.drew fun e w' => e = .returned (.tuple #[]) ∧ Blk w' q 108 (shc (syncSh s OA) sl (some ⟨g, 0, none⟩)) ∧ Only w.drew w' (fun k => k = q)) := Lib.hid (ssync_any q s sl (some ⟨g, 0, none⟩) OA w.drew hd.k HLK.out)
  have hsd : w.drew.heap.size = w.heap.size := rfl
  obtain ⟨w1, hw1⟩ : ∃ w1, w.drew = w1 := ⟨_, rfl⟩
  have m2' : w1.cell? ⟨g, 2, none⟩ = some (.bool true) := by rw [← hw1]; exact m2
  have lg' : g < w1.heap.size := by rw [← hw1]; exact lg
  have lq' : q < w1.heap.size := by rw [← hw1]; exact lq
  rw [hw1] at hd kd od Hcd hsd ⊢
  have Hd := Lib.hid hd
  have Od := Lib.hid od
  have Hsd := Lib.hid hsd
  clear hS hw1 m0 m1 m2 lg lq c4 c45 hd kd od o0 H Hm Hc hsd
  go_wp2_with fail
  refine Hcd.out.mono ?_
  rintro e w2 ⟨rfl, k2, o2⟩
  have h2 := Hd.out.box o2 k2 rfl
  have oA := Od.out.trans o2
  have hs2 : w.heap.size ≤ w2.heap.size := by have := Hsd.out; have := o2.2.2.2.1; omega
  have cs2 : w2.cell? ⟨q, OA * 2, none⟩ = some (.string DT) := (k2.cell (OA * 2)).trans ((shc_slot (syncSh s OA) sl (some ⟨g, 0, none⟩) OA hOA2).trans (by rw [slot_sync, HDT.out]))
  have lq2 := k2.lt
  have Hr2 := Lib.hid (Hrd.out w2)
  have H2 := Lib.hid h2
  have OA2 := Lib.hid oA
  have Hs2 := Lib.hid hs2
  clear o2 oA hs2 h2 k2 Hcd Hd Od Hsd m2' lg' lq'
  go_wp2_with fail
  refine Hr2.out.mono ?_
  rintro e w3 ⟨sl2, ss2, rfl, hv3, hb3⟩
  have h3 := H2.out.below hb3
  have oB := OA2.out.trans (Only.of_below (S := fun k => k = q) hb3)
  have ht3 : w3.there q 5 (lgc l2 sl2).size := by rw [lgc_size h82]; exact shop_log_there h3.k h8
  have hv3' := hv3.base Hs2.out
  have lq3 := h3.k.lt
  have H3 := Lib.hid h3
  have OB := Lib.hid oB
  have Hv3 := Lib.hid hv3'
  have Ht3 := Lib.hid ht3
  clear h3 oB hv3 hv3' hb3 cs2 lq2 Hr2 H2 OA2 ht3
  go_upto_region 5 with (first | (refine wpList_store_mid rfl _ (.tmp 37) (.tmp 34) rfl q 5 (lgc l2 sl2) rfl rfl Ht3.out (by rw [lgc_size h82]; exact log_info) lgc_ones ?_))
  have k4 := Blk.setMany (w := w3) (lgc l2 sl2).toList 5 _ _ H3.out.k
  rw [show (lgc l2 sl2).toList = lgl l2 sl2 from rfl, shc_setlog (syncSh s OA) sl sl2 (some ⟨g, 0, none⟩) l2 h8 h82] at k4
  have o4 := Only.setMany q (lgl l2 sl2) 5 w3
  have hv4 := Hv3.out.box H3.out.k (by decide) (by decide) o4
  have oC := OB.out.trans o4
  have hf4 : (∀ k, (Value.slice sl2.1 sl2.2.1 sl2.2.2).ownBlock = some k → w.heap.size ≤ k) := fun k hk => own_ge Hv3.out.row k hk
  have hg4 : (∀ d ∈ ss2, ∀ k, (Value.slice d.1 d.2.1 d.2.2).ownBlock = some k → w.heap.size ≤ k) := fun d hd k hk => by
    obtain ⟨j, hj, rfl⟩ := List.getElem_of_mem hd
    exact own_ge (Hv3.out.ds j (by rw [← Hv3.out.len]; exact hj)).1 k hk
  change Code.wp _ _ _ _ (w3.setCells q 5 (lgl l2 sl2))
  obtain ⟨w4, hw4⟩ : ∃ w4, w3.setCells q 5 (lgl l2 sl2) = w4 := ⟨_, rfl⟩
  rw [hw4] at k4 o4 hv4 oC ⊢
  have h4 : ShR w4 q { syncSh s OA with log := l2 } sl2 ss2 (some ⟨g, 0, none⟩) := ⟨k4, hv4.base (Nat.zero_le _)⟩
  have hh := shead_any q { syncSh s OA with log := l2 } sl2 (some ⟨g, 0, none⟩) w4 k4 h82 h4.len hb0 hb1 hr
  have Hh := Lib.hid hh
  have H4 := Lib.hid h4
  have OC := Lib.hid oC
  have Hf4 := Lib.hid hf4
  have Hg4 := Lib.hid hg4
  clear hh h4 oC hf4 hg4 hv4 k4 o4 hw4 lq3 H3 OB Hv3 Ht3
  go_wp2_with fail
  refine Hh.out.mono ?_
  rintro e w5 ⟨rfl, hb5⟩
  have h5 := H4.out.below hb5
  have oD := OC.out.trans (Only.of_below (S := fun k => k = q) hb5)
  obtain ⟨HD, hHD⟩ : ∃ HD : Int, l2.base + (l2.revs.length : Int) = HD := ⟨_, rfl⟩
  have s44 := h5.k.cell 44
  rw [shc_safe (s := { syncSh s OA with log := l2 }) h82] at s44
  have s4 := h5.k.cell 4
  rw [shc_at] at s4
  have s45 := h5.k.cell 45
  rw [shc_mv (s := { syncSh s OA with log := l2 }) h82] at s45
  have s46 := h5.k.cell 46
  rw [shc_old (s := { syncSh s OA with log := l2 }) h82] at s46
  have t44 := h5.k.frozen 44
  have t4 := h5.k.frozen 4
  have t45 := h5.k.frozen 45
  have t46 := h5.k.frozen 46
  have lq5 := h5.k.lt
  have H5 := Lib.hid h5
  have OD := Lib.hid oD
  have HHD := Lib.hid hHD
  clear h5 oD hb5 Hh H4 OC hHD
  go_wp2_with fail
  go_ret
  have k6 := (((H5.out.k.set_ 44 (.int .i64 (l2.base + (l2.revs.length : Int)))).set_ 4 (.int .i64 (OA : Int))).set_ 45 (.pointer none)).set_ 46 (.bool true)
  rw [shc_set44 _ _ _ _ h82, shc_set4, shc_setmv _ _ _ _ h82, shc_set46 _ _ _ _ h82] at k6
  have o6 : Only w5 ((((w5.setCell ⟨q, 44, none⟩ (.int .i64 (l2.base + (l2.revs.length : Int)))).setCell ⟨q, 4, none⟩ (.int .i64 (OA : Int))).setCell ⟨q, 45, none⟩ (.pointer none)).setCell ⟨q, 46, none⟩ (.bool true)) (fun k => k = q) := (((Only.setSelf _ q 44 _).trans (Only.setSelf _ q 4 _)).trans (Only.setSelf _ q 45 _)).trans (Only.setSelf _ q 46 _)
  exact ⟨rfl, sl2, ss2, H5.out.box o6 k6 rfl, Hf4.out, Hg4.out, OD.out.trans o6⟩
end Go.Proofs.Ytmnnaemcjmiplaa
namespace Go.Proofs.Ytmnnaemcjmiplaa
open Go.ChangeShapes Go.WideShapes Go.RowKit
set_option linter.unusedVariables false
set_option linter.unusedSimpArgs false
set_option maxRecDepth 100000
set_option maxHeartbeats 4000000

/-- how many frames lie whole within k bytes -/
def cnt : List Fm → Nat → Nat
  | [], _ => 0
  | f :: fs, k => if f.2.size + 7 ≤ k then cnt fs (k - (f.2.size + 7)) + 1 else 0
theorem cnt_le : ∀ (fs : List Fm) (k : Nat), cnt fs k ≤ fs.length
  | [], k => Nat.le_refl _
  | f :: fs, k => by
    unfold cnt
    split
    · have := cnt_le fs (k - (f.2.size + 7)); simp; omega
    · simp
theorem cnt_spec : ∀ (fs : List Fm) (k : Nat), (∀ p ∈ fs, okF p) → ∃ rest, (flat fs).take k = flat (fs.take (cnt fs k)) ++ rest ∧ (gf rest).2.2.2 ≠ 0
  | [], k, _ => ⟨[], by simp [flat], gf_nil⟩
  | p :: fs, k, hok => by
    unfold cnt
    split
    · rename_i hk
      obtain ⟨r, e, hr⟩ := cnt_spec fs (k - (p.2.size + 7)) fun q hq => hok q (List.mem_cons_of_mem _ hq)
      refine ⟨r, ?_, hr⟩
      simp only [flat, List.take_succ_cons]
      rw [List.take_append, txF_len, List.take_of_length_le (by rw [txF_len]; exact hk), e, List.append_assoc]
    · rename_i hk
      refine ⟨(txF p).take k, ?_, ?_⟩
      · simp only [flat, List.take_zero, List.nil_append]
        rw [List.take_append_of_le_length (by rw [txF_len]; omega)]
      · obtain ⟨h1, h2, h3⟩ := hok p (by simp)
        have := gf_cut p.1.toNat p.2.data.toList k (by omega) (by omega) h3 (by have := txF_len p; unfold txF at this; omega)
        unfold txF
        rw [this]
        decide
theorem cnt_ge : ∀ (fs : List Fm) (j k : Nat), j ≤ fs.length → (flat (fs.take j)).length ≤ k → j ≤ cnt fs k
  | fs, 0, k, _, _ => Nat.zero_le _
  | [], j + 1, k, h, _ => by simp at h
  | f :: fs, j + 1, k, h, hk => by
    simp only [List.take_succ_cons, flat, List.length_append, txF_len] at hk
    unfold cnt
    rw [if_pos (by omega)]
    have := cnt_ge fs j (k - (f.2.size + 7)) (by simpa using h) (by omega)
    omega
theorem cnt_all (fs : List Fm) (k : Nat) (h : (flat fs).length ≤ k) : cnt fs k = fs.length :=
  Nat.le_antisymm (cnt_le fs k) (cnt_ge fs fs.length k (Nat.le_refl _) (by rw [List.take_length]; exact h))

/-! okRs -/
theorem nextE_mv {l l' : Lg} {n : Nat} {r : Rv} (ht : l'.table = l.table) (hb : l'.base + (l'.revs.length : Int) = l.base + (l.revs.length : Int)) (hl : l'.revs.length ≤ l.revs.length) (h : nextE l n r = 0) : nextE l' n r = 0 := by
  obtain ⟨a, b, c, d, e⟩ := next_len h
  unfold nextE
  rw [if_neg (by omega), ht, if_neg (by omega), if_neg (by omega)]
  exact e
theorem okRs_mv : ∀ (rs : List Rv) (l l' : Lg) (t : ByteArray), l'.table = l.table → l'.base + (l'.revs.length : Int) = l.base + (l.revs.length : Int) → l'.revs.length ≤ l.revs.length → okRs l t rs → okRs l' t rs
  | [], l, l', t, _, _, _, _ => trivial
  | r :: rs, l, l', t, h1, h2, h3, h => by
    obtain ⟨a, b, c⟩ := h
    refine ⟨a, nextE_mv h1 h2 h3 b, okRs_mv rs _ _ _ ?_ ?_ ?_ c⟩
    · simp only [addL]
      rw [h1]
      congr 2
      omega
    · simp only [addL, List.length_append, List.length_singleton]
      omega
    · simp only [addL, List.length_append, List.length_singleton]
      omega
theorem okRs_app : ∀ (a b : List Rv) (l : Lg) (t : ByteArray), okRs l t (a ++ b) ↔ okRs l t a ∧ okRs (addLs l a) (txt t a a.length) b
  | [], b, l, t => by simp [okRs, addLs, txt]
  | r :: a, b, l, t => by
    simp only [List.cons_append, okRs, addLs, List.length_cons, txt]
    rw [okRs_app a b]
    constructor
    · rintro ⟨x, y, z, u⟩; exact ⟨⟨x, y, z⟩, u⟩
    · rintro ⟨⟨x, y, z⟩, u⟩; exact ⟨x, y, z, u⟩
theorem okRs_txr : ∀ (rs : List Rv) (l : Lg) (t : ByteArray), okRs l t rs → txr t rs = 0
  | [], _, _, _ => rfl
  | r :: rs, l, t, h => by
    obtain ⟨a, b, c⟩ := h
    obtain ⟨_, _, _, _, e⟩ := next_len b
    simp only [txr]
    rw [if_neg (by omega), if_neg (by
      have : doE r.2.2 t = 0 := e
      omega)]
    exact okRs_txr rs _ _ c
theorem okRs_len : ∀ (rs : List Rv) (l : Lg) (t : ByteArray), okRs l t rs → rs = [] ∨ l.revs.length + rs.length ≤ 64
  | [], _, _, _ => .inl rfl
  | r :: rs, l, t, h => by
    obtain ⟨a, b, c⟩ := h
    obtain ⟨_, _, d, _, _⟩ := next_len b
    rcases okRs_len rs _ _ c with h | h
    · subst h; right; simp; omega
    · right
      simp only [addL, List.length_append, List.length_singleton, List.length_cons] at h ⊢
      omega
theorem okRs_base : ∀ (rs : List Rv) (l : Lg) (t : ByteArray), okRs l t rs → rs = [] ∨ l.base + (l.revs.length : Int) + (rs.length : Int) ≤ 2147483647
  | [], _, _, _ => .inl rfl
  | r :: rs, l, t, h => by
    obtain ⟨a, b, c⟩ := h
    obtain ⟨_, _, _, d, _⟩ := next_len b
    rcases okRs_base rs _ _ c with h | h
    · subst h; right; simp; omega
    · right
      simp only [addL, List.length_append, List.length_singleton, List.length_cons] at h ⊢
      omega
theorem okRs_one : ∀ (rs : List Rv) (l : Lg) (t : ByteArray), okRs l t rs → ∀ r ∈ rs, oneE r = 0
  | [], _, _, _, r, hr => by simp at hr
  | q :: rs, l, t, h, r, hr => by
    rcases List.mem_cons.1 hr with rfl | hr
    · exact h.1
    · exact okRs_one rs _ _ h.2.2 r hr
theorem addLs_tbl : ∀ (rs : List Rv) (l : Lg), (addLs l rs).table = tblF (l.base + (l.revs.length : Int)) l.table rs
  | [], l => rfl
  | r :: rs, l => by
    simp only [addLs, tblF]
    rw [addLs_tbl rs]
    simp only [addL, List.length_append, List.length_singleton]
    have : l.base + ((l.revs.length + 1 : Nat) : Int) = l.base + (l.revs.length : Int) + 1 := by omega
    rw [this]

/-! a slot's frames -/
structure HdI (g b : Nat) (t : List (Nat × Nat)) (tx : ByteArray) : Prop where
  len : t.length = 8
  g : g ≤ 2147483647
  b : b ≤ 2147483647
  t : ∀ p ∈ t, p.1 ≤ 2147483647 ∧ p.2 ≤ 2147483647
  tx : tx.size ≤ 500
def SF (g b : Nat) (t : List (Nat × Nat)) (tx : ByteArray) (r1 : List Rv) (r2 : Option (List Rv)) : List Fm :=
  hf g b t tx :: (r1.map frR ++ match r2 with | none => [] | some l => doneF :: l.map frR)
/-- the log that a slot's frames say -/
def sfL (g b : Nat) (t : List (Nat × Nat)) (tx : ByteArray) (rs : List Rv) (wh : Bool) (good : Int) : Lg := ⟨g, b, tx, tbN t, tblF b (tbN t) rs, rs, wh, good⟩
variable {g b : Nat} {t : List (Nat × Nat)} {tx : ByteArray}
theorem SF_snoc1 (r1 : List Rv) (r : Rv) : SF g b t tx (r1 ++ [r]) none = SF g b t tx r1 none ++ [frR r] := by simp [SF]
theorem SF_done (r1 : List Rv) : SF g b t tx r1 (some []) = SF g b t tx r1 none ++ [doneF] := by simp [SF]
theorem SF_snoc2 (r1 r2 : List Rv) (r : Rv) : SF g b t tx r1 (some (r2 ++ [r])) = SF g b t tx r1 (some r2) ++ [frR r] := by simp [SF]
theorem SF_ok (h : HdI g b t tx) (r1 : List Rv) (r2 : Option (List Rv)) (h1 : ∀ r ∈ r1, oneE r = 0) (h2 : ∀ l, r2 = some l → ∀ r ∈ l, oneE r = 0) : ∀ p ∈ SF g b t tx r1 r2, okF p := by
  intro p hp
  unfold SF at hp
  rcases List.mem_cons.1 hp with rfl | hp
  · exact hf_ok g b t tx h.len h.g h.b h.t h.tx
  · rcases List.mem_append.1 hp with hp | hp
    · exact frs_ok r1 h1 p hp
    · cases r2 with
      | none => simp at hp
      | some l =>
        rcases List.mem_cons.1 hp with rfl | hp
        · exact doneF_ok
        · exact frs_ok l (h2 l rfl) p hp
theorem SF_take1 (r1 : List Rv) (r2 : Option (List Rv)) (j : Nat) (hj : j ≤ r1.length) : (SF g b t tx r1 r2).take (j + 1) = SF g b t tx (r1.take j) none := by
  unfold SF
  rw [List.take_succ_cons, List.take_append_of_le_length (by simpa using hj), List.map_take, List.append_nil]
theorem SF_take2 (r1 r2 : List Rv) (i : Nat) : (SF g b t tx r1 (some r2)).take (r1.length + i + 2) = SF g b t tx r1 (some (r2.take i)) := by
  unfold SF
  rw [show r1.length + i + 2 = (r1.length + i + 1) + 1 by omega, List.take_succ_cons, List.take_append, List.length_map, List.take_of_length_le (by simp; omega), show r1.length + i + 1 - r1.length = i + 1 by omega, List.take_succ_cons, ← List.map_take]
theorem SF_len (r1 : List Rv) (r2 : Option (List Rv)) : (SF g b t tx r1 r2).length = 1 + r1.length + (match r2 with | none => 0 | some l => 1 + l.length) := by
  unfold SF
  cases r2 <;> simp <;> omega
theorem frR_len {r : Rv} (h : oneE r = 0) : (frR r).2.size + 7 ≤ 4007 := by have := (frR_ok h).2.2; omega
theorem flat_revs : ∀ rs : List Rv, (∀ r ∈ rs, oneE r = 0) → (flat (rs.map frR)).length ≤ 4007 * rs.length
  | [], _ => Nat.le_refl _
  | r :: rs, h => by
    have h1 := frR_len (h r (by simp))
    have h2 := flat_revs rs fun q hq => h q (List.mem_cons_of_mem _ hq)
    simp only [List.map_cons, flat, List.length_append, txF_len, List.length_cons]
    omega
theorem SF_size (h : HdI g b t tx) (r1 : List Rv) (r2 : Option (List Rv)) (h1 : ∀ r ∈ r1, oneE r = 0) (h2 : ∀ l, r2 = some l → ∀ r ∈ l, oneE r = 0) : (flat (SF g b t tx r1 r2)).length ≤ 610 + 4007 * (r1.length + (match r2 with | none => 0 | some l => l.length)) := by
  have a := headB_len g b t tx h.len h.g h.b h.t
  have a2 : (hf g b t tx).2.size = (headB ((g, b) :: t) tx).length := List.size_toArray
  have a3 := h.tx
  have c := flat_revs r1 h1
  unfold SF
  simp only [flat, List.length_append, flat_app, txF_len]
  cases r2 with
  | none => simp only [flat, List.length_nil]; omega
  | some l =>
    have d := flat_revs l (h2 l rfl)
    simp only [flat, List.length_append, txF_len]
    have e : doneF.2.size = 0 := rfl
    omega
theorem hot_SF1 (h : HdI g b t tx) (r1 : List Rv) (hok : okRs (L0 g b t tx) tx r1) : hotE (SF g b t tx r1 none) = 0 ∧ hotL (SF g b t tx r1 none) = sfL g b t tx r1 false (flat (SF g b t tx r1 none)).length := by
  obtain ⟨e1, e2⟩ := hot_head g b t tx (r1.map frR ++ []) h.len h.g h.b h.t h.tx
  refine ⟨e1, ?_⟩
  have e3 : hotL (SF g b t tx r1 none) = readF (L0 g b t tx) tx (r1.map frR ++ []) := e2
  rw [e3, readF_revs r1 _ _ [] hok]
  obtain ⟨a, b', c, d, e, f, k⟩ := addLs_same r1 (L0 g b t tx)
  have tb := addLs_tbl r1 (L0 g b t tx)
  have hg : (addLs (L0 g b t tx) r1).good = ((flat (SF g b t tx r1 none)).length : Nat) := by
    rw [k]
    simp only [SF, L0, List.append_nil, flat, List.length_append, txF_len]
    have : (hf g b t tx).2.size = (headB ((g, b) :: t) tx).length := List.size_toArray
    omega
  show addLs (L0 g b t tx) r1 = _
  generalize addLs (L0 g b t tx) r1 = X at *
  cases X
  simp only [L0, List.length_nil, Int.natCast_zero, Int.add_zero, List.nil_append, Int.ofNat_zero] at a b' c d e f tb hg
  subst a b' c d e f tb hg
  simp [sfL]
theorem hot_SF2 (h : HdI g b t tx) (r1 r2 : List Rv) (hok : okRs (L0 g b t tx) tx (r1 ++ r2)) : hotE (SF g b t tx r1 (some r2)) = 0 ∧ hotL (SF g b t tx r1 (some r2)) = sfL g b t tx (r1 ++ r2) true (flat (SF g b t tx r1 (some r2))).length := by
  obtain ⟨e1, e2⟩ := hot_head g b t tx (r1.map frR ++ doneF :: r2.map frR) h.len h.g h.b h.t h.tx
  refine ⟨e1, ?_⟩
  have e3 : hotL (SF g b t tx r1 (some r2)) = readF (L0 g b t tx) tx (r1.map frR ++ doneF :: r2.map frR) := e2
  obtain ⟨o1, o2⟩ := (okRs_app r1 r2 _ _).1 hok
  obtain ⟨a, b', c, d, e, f, k⟩ := addLs_same r1 (L0 g b t tx)
  have tb := addLs_tbl r1 (L0 g b t tx)
  rw [e3, readF_revs r1 _ _ _ o1, show doneF = (3, ⟨#[]⟩) from rfl, readF_done _ _ _ (by rw [f]; rfl)]
  have o3 : okRs { addLs (L0 g b t tx) r1 with whole := true, good := (addLs (L0 g b t tx) r1).good + 7 } (txt tx r1 r1.length) r2 := okRs_mv r2 (addLs (L0 g b t tx) r1) _ _ rfl rfl (Nat.le_refl _) o2
  rw [← List.append_nil (r2.map frR), readF_revs r2 _ _ [] o3]
  obtain ⟨a2, b2, c2, d2, e2', f2, k2⟩ := addLs_same r2 { addLs (L0 g b t tx) r1 with whole := true, good := (addLs (L0 g b t tx) r1).good + 7 }
  have tb2 := addLs_tbl r2 { addLs (L0 g b t tx) r1 with whole := true, good := (addLs (L0 g b t tx) r1).good + 7 }
  have tb3 : tblF (b : Int) (tbN t) (r1 ++ r2) = tblF ((b : Int) + (r1.length : Int)) (tblF b (tbN t) r1) r2 := by
    have h1 := addLs_tbl (r1 ++ r2) (L0 g b t tx)
    have h2 := tb2
    clear e1 e2 e3 o1 o2 o3 h1 h2
    have key : ∀ (r1 : List Rv) (n : Int) (T : Tb), tblF n T (r1 ++ r2) = tblF (n + (r1.length : Int)) (tblF n T r1) r2 := by
      intro r1
      induction r1 with
      | nil => intro n T; simp [tblF]
      | cons r r1 ih => intro n T; rw [List.cons_append, tblF, ih, tblF, List.length_cons]; congr 1; omega
    exact key r1 _ _
  have hg : (addLs { addLs (L0 g b t tx) r1 with whole := true, good := (addLs (L0 g b t tx) r1).good + 7 } r2).good = ((flat (SF g b t tx r1 (some r2))).length : Nat) := by
    rw [k2]
    simp only [k]
    simp only [SF, L0, flat, flat_app, List.length_append, txF_len]
    have : (hf g b t tx).2.size = (headB ((g, b) :: t) tx).length := List.size_toArray
    have e : doneF.2.size = 0 := rfl
    omega
  show addLs _ r2 = _
  generalize addLs { addLs (L0 g b t tx) r1 with whole := true, good := (addLs (L0 g b t tx) r1).good + 7 } r2 = X at *
  cases X
  simp only [a, b', c, d, e, tb] at a2 b2 c2 d2 e2' f2 tb2 hg
  simp only [L0, List.length_nil, Int.natCast_zero, Int.add_zero, List.nil_append, Int.ofNat_zero] at a2 b2 c2 d2 e2' f2 tb2 hg
  subst a2 b2 c2 d2 e2' f2 tb2 hg
  simp [sfL, tb3]
end Go.Proofs.Ytmnnaemcjmiplaa
namespace Go.Proofs.Ytmnnaemcjmiplaa
open Go.ChangeShapes Go.WideShapes Go.RowKit
set_option linter.unusedVariables false
set_option linter.unusedSimpArgs false
set_option maxRecDepth 100000
set_option maxHeartbeats 4000000

/-- the log in memory -/
structure LogI (l : Lg) (tx : ByteArray) (g b : Nat) (tN : List (Nat × Nat)) : Prop where
  hd : HdI g b tN l.text
  eg : l.gen = (g : Int)
  eb : l.base = (b : Int)
  ef : l.first = tbN tN
  ok : okRs (L0 g b tN l.text) l.text l.revs
  tb : l.table = tblF b (tbN tN) l.revs
  wh : l.whole = true
  now : txt l.text l.revs l.revs.length = tx
theorem L0_len (g b : Nat) (t : List (Nat × Nat)) (tx : ByteArray) : (L0 g b t tx).revs.length = 0 := rfl
theorem LogI.len {l : Lg} {tx : ByteArray} {g b : Nat} {tN : List (Nat × Nat)} (h : LogI l tx g b tN) : l.revs.length ≤ 64 := by
  rcases okRs_len _ _ _ h.ok with e | e
  · rw [e]; exact Nat.zero_le _
  · rw [L0_len] at e; omega
theorem LogI.num {l : Lg} {tx : ByteArray} {g b : Nat} {tN : List (Nat × Nat)} (h : LogI l tx g b tN) : (b : Int) + (l.revs.length : Int) ≤ 2147483647 := by
  rcases okRs_base _ _ _ h.ok with e | e
  · rw [e]; have := h.hd.b; simp; omega
  · have : (L0 g b tN l.text).base = (b : Int) := rfl
    rw [this, L0_len] at e
    omega
theorem LogI.one {l : Lg} {tx : ByteArray} {g b : Nat} {tN : List (Nat × Nat)} (h : LogI l tx g b tN) : ∀ r ∈ l.revs, oneE r = 0 := okRs_one _ _ _ h.ok
theorem LogI.txe {l : Lg} {tx : ByteArray} {g b : Nat} {tN : List (Nat × Nat)} (h : LogI l tx g b tN) : txE l.text l.revs = 0 := txE_zero h.hd.tx h.len (okRs_txr _ _ _ h.ok)
theorem LogI.hg {l : Lg} {tx : ByteArray} {g b : Nat} {tN : List (Nat × Nat)} (h : LogI l tx g b tN) : Hg l tx := by
  have hl : (tbN tN).length = 8 := by simp [tbN, h.hd.len]
  refine ⟨⟨⟨by rw [h.ef]; exact hl, by rw [h.tb, tblF_len]; exact hl⟩, by rw [h.eb]; omega, by rw [h.eb]; have := h.hd.b; omega, h.len, ?_⟩, h.txe, h.now⟩
  rw [← h.now]
  exact txt_size _ _ _ h.hd.tx
theorem tblF_app : ∀ (r1 r2 : List Rv) (n : Int) (T : Tb), tblF n T (r1 ++ r2) = tblF (n + (r1.length : Int)) (tblF n T r1) r2
  | [], r2, n, T => by simp [tblF]
  | r :: r1, r2, n, T => by rw [List.cons_append, tblF, tblF_app r1, tblF, List.length_cons]; congr 1; omega
theorem LogI.add {l : Lg} {tx : ByteArray} {g b : Nat} {tN : List (Nat × Nat)} (h : LogI l tx g b tN) {r : Rv} (hn : nextE l tx.size r = 0) : LogI (addL l r) (doS r.2.2 tx) g b tN := by
  have hone := (next_len hn).1
  obtain ⟨a1, a2, a3, a4, a5, a6, a7⟩ := addLs_same l.revs (L0 g b tN l.text)
  refine ⟨h.hd, h.eg, h.eb, h.ef, ?_, ?_, h.wh, ?_⟩
  · refine okRs_snoc _ _ _ r h.ok hone ?_
    show nextE (addLs (L0 g b tN l.text) l.revs) (txt l.text l.revs l.revs.length).size r = 0
    rw [h.now]
    refine nextE_mv ?_ ?_ ?_ hn
    · rw [addLs_tbl, h.tb, L0_len]
      show tblF ((b : Int) + ((0 : Nat) : Int)) (tbN tN) l.revs = _
      congr 1
    · rw [a2, a5, h.eb]
      simp [L0]
    · rw [a5]; simp [L0]
  · show l.table.set r.1.toNat (r.2.1, l.base + (l.revs.length + 1 : Nat)) = tblF b (tbN tN) (l.revs ++ [r])
    rw [tblF_snoc, h.tb, h.eb]
    congr 2
  · show txt l.text (l.revs ++ [r]) (l.revs ++ [r]).length = _
    rw [List.length_append, List.length_singleton, txt_snoc, h.now]
def natT (T : Tb) : List (Nat × Nat) := T.map fun p => (p.1.toNat, p.2.toNat)
theorem tbN_natT : ∀ T : Tb, (∀ p ∈ T, 0 ≤ p.1 ∧ 0 ≤ p.2) → tbN (natT T) = T
  | [], _ => rfl
  | p :: T, h => by
    have h1 := h p (by simp)
    have h2 := tbN_natT T fun q hq => h q (List.mem_cons_of_mem _ hq)
    unfold tbN natT at h2 ⊢
    simp only [List.map_cons, List.map_map] at h2 ⊢
    rw [h2]
    congr 1
    exact Prod.ext (Int.toNat_of_nonneg h1.1) (Int.toNat_of_nonneg h1.2)
theorem tblF_ok : ∀ (rs : List Rv) (n : Int) (T : Tb), (∀ p ∈ T, (0 ≤ p.1 ∧ p.1 ≤ 2147483647) ∧ 0 ≤ p.2 ∧ p.2 ≤ 2147483647) → (∀ r ∈ rs, oneE r = 0) → 0 ≤ n → n + (rs.length : Int) ≤ 2147483647 → ∀ p ∈ tblF n T rs, (0 ≤ p.1 ∧ p.1 ≤ 2147483647) ∧ 0 ≤ p.2 ∧ p.2 ≤ 2147483647
  | [], n, T, h, _, _, _ => h
  | r :: rs, n, T, h, h1, h2, h3 => by
    obtain ⟨_, _, o1, o2, _⟩ := one_parts (h1 r (by simp))
    have h3' : n + 1 + (rs.length : Int) ≤ 2147483647 := by simp only [List.length_cons] at h3; omega
    refine tblF_ok rs (n + 1) _ (fun p hp => ?_) (fun q hq => h1 q (List.mem_cons_of_mem _ hq)) (by omega) h3'
    rcases List.mem_or_eq_of_mem_set hp with hp | rfl
    · exact h p hp
    · exact ⟨⟨o1, o2⟩, by simp only; omega, by simp only; omega⟩
/-- the table at the k-th revision -/
def tabK (l : Lg) (k : Nat) : List (Nat × Nat) := natT (tblF l.base l.first (l.revs.take k))
theorem tbN_ok (tN : List (Nat × Nat)) (h : ∀ p ∈ tN, p.1 ≤ 2147483647 ∧ p.2 ≤ 2147483647) : ∀ p ∈ tbN tN, (0 ≤ p.1 ∧ p.1 ≤ 2147483647) ∧ 0 ≤ p.2 ∧ p.2 ≤ 2147483647 := by
  intro p hp
  unfold tbN at hp
  obtain ⟨q, hq, rfl⟩ := List.mem_map.1 hp
  have := h q hq
  simp only
  omega
section
variable {l : Lg} {tx : ByteArray} {g b : Nat} {tN : List (Nat × Nat)}
theorem LogI.tab_ok (h : LogI l tx g b tN) (k : Nat) (hk : k ≤ l.revs.length) : ∀ p ∈ tblF l.base l.first (l.revs.take k), (0 ≤ p.1 ∧ p.1 ≤ 2147483647) ∧ 0 ≤ p.2 ∧ p.2 ≤ 2147483647 := by
  have := h.num
  refine tblF_ok _ _ _ (by rw [h.ef]; exact tbN_ok _ h.hd.t) (fun r hr => h.one r (List.mem_of_mem_take hr)) (by rw [h.eb]; omega) ?_
  rw [h.eb, List.length_take]
  omega
theorem LogI.tab (h : LogI l tx g b tN) (k : Nat) (hk : k ≤ l.revs.length) : tbN (tabK l k) = tblF l.base l.first (l.revs.take k) := tbN_natT _ fun p hp => by have := h.tab_ok k hk p hp; exact ⟨this.1.1, this.2.1⟩
theorem LogI.hdK (h : LogI l tx g b tN) (k : Nat) (hk : k ≤ l.revs.length) (hg : g + 1 ≤ 2147483647) : HdI (g + 1) (b + k) (tabK l k) (txt l.text l.revs k) := by
  have hn := h.num
  refine ⟨?_, hg, by omega, ?_, txt_size _ _ _ h.hd.tx⟩
  · have := congrArg List.length (h.tab k hk)
    rw [tblF_len, h.ef] at this
    simp only [tbN, List.length_map] at this
    rw [this]; exact h.hd.len
  · intro p hp
    unfold tabK natT at hp
    obtain ⟨q, hq, rfl⟩ := List.mem_map.1 hp
    have := h.tab_ok k hk q hq
    simp only
    omega
theorem LogI.okK (h : LogI l tx g b tN) (k : Nat) (hk : k ≤ l.revs.length) : okRs (L0 (g + 1) (b + k) (tabK l k) (txt l.text l.revs k)) (txt l.text l.revs k) (l.revs.drop k) := by
  have ho := h.ok
  rw [← List.take_append_drop k l.revs] at ho
  have h2 := ((okRs_app _ _ _ _).1 ho).2
  have hlen : (l.revs.take k).length = k := by rw [List.length_take]; omega
  obtain ⟨a1, a2, a3, a4, a5, a6, a7⟩ := addLs_same (l.revs.take k) (L0 g b tN l.text)
  rw [hlen, txt_take _ _ _ _ (Nat.le_refl _)] at h2
  refine okRs_mv _ _ _ _ ?_ ?_ ?_ h2
  · rw [addLs_tbl, L0_len]
    show tbN (tabK l k) = tblF ((b : Int) + ((0 : Nat) : Int)) (tbN tN) _
    rw [h.tab k hk, h.eb, h.ef]
    congr 1
  · rw [a2, a5]
    simp only [L0, List.nil_append, hlen, List.length_nil]
    omega
  · exact Nat.zero_le _
/-- the log behind a move -/
def mvL (l : Lg) (g b k : Nat) (good : Int) : Lg := sfL (g + 1) (b + k) (tabK l k) (txt l.text l.revs k) (l.revs.drop k) true good
theorem LogI.move (h : LogI l tx g b tN) (k : Nat) (hk : k ≤ l.revs.length) (hg : g + 1 ≤ 2147483647) (good : Int) : LogI (mvL l g b k good) tx (g + 1) (b + k) (tabK l k) := by
  refine ⟨h.hdK k hk hg, rfl, rfl, rfl, h.okK k hk, rfl, rfl, ?_⟩
  show txt (txt l.text l.revs k) (l.revs.drop k) (l.revs.drop k).length = tx
  rw [txt_drop, List.length_drop, show k + (l.revs.length - k) = l.revs.length by omega, h.now]
theorem LogI.move_tb (h : LogI l tx g b tN) (k : Nat) (hk : k ≤ l.revs.length) (good : Int) : (mvL l g b k good).table = l.table := by
  have hlen : (l.revs.take k).length = k := by rw [List.length_take]; omega
  show tblF ((b + k : Nat) : Int) (tbN (tabK l k)) (l.revs.drop k) = l.table
  rw [h.tab k hk, h.tb, h.eb, h.ef]
  conv => rhs; rw [← List.take_append_drop k l.revs, tblF_app, hlen]
  congr 1
end

/-! the slots -/
/-- the current slot -/
def CurI (x : Slt) (l : Lg) (g b : Nat) (tN : List (Nat × Nat)) (safe : Int) : Prop :=
  ∃ (r1 r2 : List Rv) (j0 : Nat), l.revs = r1 ++ r2 ∧ x.1.data.toList = flat (SF g b tN l.text r1 (some r2)) ∧ j0 ≤ r2.length ∧ x.2 = ((flat (SF g b tN l.text r1 (some (r2.take j0)))).length : Nat) ∧ safe ≤ (b : Int) + (r1.length : Int) + (j0 : Int)
/-- a slot of an older log -/
def OldI (x : Slt) (g : Nat) : Prop :=
  ∃ (g' b' : Nat) (t' : List (Nat × Nat)) (tx' : ByteArray) (r1 : List Rv) (r2 : Option (List Rv)), HdI g' b' t' tx' ∧ (∀ r ∈ r1, oneE r = 0) ∧ (∀ l, r2 = some l → ∀ r ∈ l, oneE r = 0) ∧ x.1.data.toList = flat (SF g' b' t' tx' r1 r2) ∧ (SF g' b' t' tx' r1 r2).length ≤ 66 ∧ g' < g ∧ 0 ≤ x.2 ∧ x.2 ≤ (x.1.size : Int) ∧ x.1.size ≤ 300000
def Emp (x : Slt) : Prop := x.1.size = 0 ∧ x.2 = 0
/-- the other slot -/
def OthI (x : Slt) (l : Lg) (safe : Int) (old : Bool) (m : Option Mv) (g b : Nat) : Prop :=
  match m with
  | none => (old = true ∧ OldI x g) ∨ (old = false ∧ Emp x)
  | some (fl, cp, wh) => old = false ∧ ∃ k : Nat, fl = (b : Int) + (k : Int) ∧ k ≤ l.revs.length ∧
      ((cp = -1 ∧ wh = false ∧ Emp x) ∨
       (∃ c : Nat, cp = (c : Int) ∧ wh = false ∧ k + c ≤ l.revs.length ∧ x.1.data.toList = flat (SF (g + 1) (b + k) (tabK l k) (txt l.text l.revs k) ((l.revs.drop k).take c) none) ∧ x.2 = 0) ∨
       (∃ (c : Nat) (r1 r2 : List Rv) (j0 : Nat), cp = (c : Int) ∧ c ≤ 64 ∧ wh = true ∧ l.revs.drop k = r1 ++ r2 ∧ x.1.data.toList = flat (SF (g + 1) (b + k) (tabK l k) (txt l.text l.revs k) r1 (some r2)) ∧ j0 ≤ r2.length ∧
          ((x.2 = 0 ∧ j0 = 0) ∨ x.2 = ((flat (SF (g + 1) (b + k) (tabK l k) (txt l.text l.revs k) r1 (some (r2.take j0)))).length : Nat)) ∧ safe ≤ (b : Int) + (k : Int) + (r1.length : Int) + (j0 : Int)))
/-- what always holds of an archive -/
structure ShI (s : Sh) (m : Option Mv) (g b : Nat) (tN : List (Nat × Nat)) : Prop where
  log : LogI s.log s.text g b tN
  at1 : s.at_ ≤ 1
  g1 : g + 1 ≤ 2147483647
  cur : CurI (slotOf s s.at_) s.log g b tN s.safe
  oth : OthI (slotOf s (1 - s.at_)) s.log s.safe s.old m g b
  sf : s.safe ≤ s.log.base + (s.log.revs.length : Int)
def SzI (x : Slt) : Prop := x.1.size ≤ 300000 ∧ 0 ≤ x.2 ∧ x.2 ≤ (x.1.size : Int)
theorem bs_sz {x : ByteArray} {fs : List UInt8} (h : x.data.toList = fs) : x.size = fs.length := by rw [← h]; rfl
theorem flat_pre (fs : List Fm) (j : Nat) : (flat (fs.take j)).length ≤ (flat fs).length := by
  conv => rhs; rw [← List.take_append_drop j fs, flat_app, List.length_append]
  omega
theorem SF_pre (g b : Nat) (t : List (Nat × Nat)) (tx : ByteArray) (r1 r2 : List Rv) (j : Nat) : (flat (SF g b t tx r1 (some (r2.take j)))).length ≤ (flat (SF g b t tx r1 (some r2))).length := by
  rw [← SF_take2 r1 r2 j]; exact flat_pre _ _
section
variable {s : Sh} {m : Option Mv} {g b : Nat} {tN : List (Nat × Nat)}
theorem ShI.szc (h : ShI s m g b tN) : SzI (slotOf s s.at_) := by
  obtain ⟨r1, r2, j0, e1, e2, e3, e4, e5⟩ := h.cur
  have hl := h.log.len
  have h1 : ∀ r ∈ r1, oneE r = 0 := fun r hr => h.log.one r (by rw [e1]; exact List.mem_append_left _ hr)
  have h2 : ∀ l, some r2 = some l → ∀ r ∈ l, oneE r = 0 := fun l e r hr => by injection e with e; subst e; exact h.log.one r (by rw [e1]; exact List.mem_append_right _ hr)
  have hs := SF_size h.log.hd r1 (some r2) h1 h2
  have hz := bs_sz e2
  have hp := SF_pre g b tN s.log.text r1 r2 j0
  rw [e1, List.length_append] at hl
  simp only at hs
  refine ⟨by omega, by omega, by omega⟩
theorem ShI.szo (h : ShI s m g b tN) : SzI (slotOf s (1 - s.at_)) := by
  have ho := h.oth
  have hl := h.log.len
  unfold OthI at ho
  cases m with
  | none =>
    rcases ho with ⟨_, g', b', t', tx', r1, r2, a1, a2, a3, a4, a5, a6, a7, a8, a9⟩ | ⟨_, a1, a2⟩
    · exact ⟨a9, a7, a8⟩
    · exact ⟨by omega, by omega, by omega⟩
  | some v =>
    obtain ⟨fl, cp, wh⟩ := v
    obtain ⟨_, k, _, hk, hx⟩ := ho
    have hd := h.log.hdK k hk h.g1
    have hone : ∀ r ∈ s.log.revs.drop k, oneE r = 0 := fun r hr => h.log.one r (List.mem_of_mem_drop hr)
    rcases hx with ⟨_, _, a1, a2⟩ | ⟨c, _, _, _, a1, a2⟩ | ⟨c, r1, r2, j0, _, _, _, e1, e2, e3, e4, e5⟩
    · exact ⟨by omega, by omega, by omega⟩
    · have hs := SF_size hd ((s.log.revs.drop k).take c) none (fun r hr => hone r (List.mem_of_mem_take hr)) (fun l e => by simp at e)
      have hz := bs_sz a1
      rw [List.length_take, List.length_drop] at hs
      simp only at hs
      exact ⟨by omega, by omega, by omega⟩
    · have h1 : ∀ r ∈ r1, oneE r = 0 := fun r hr => hone r (by rw [e1]; exact List.mem_append_left _ hr)
      have h2 : ∀ l, some r2 = some l → ∀ r ∈ l, oneE r = 0 := fun l e r hr => by injection e with e; subst e; exact hone r (by rw [e1]; exact List.mem_append_right _ hr)
      have hs := SF_size hd r1 (some r2) h1 h2
      have hz := bs_sz e2
      have hp := SF_pre (g + 1) (b + k) (tabK s.log k) (txt s.log.text s.log.revs k) r1 r2 j0
      have hll := congrArg List.length e1
      rw [List.length_append, List.length_drop] at hll
      simp only at hs
      rcases e4 with ⟨e4, _⟩ | e4
      · exact ⟨by omega, by omega, by omega⟩
      · exact ⟨by omega, by omega, by omega⟩
theorem look_of {s : Sh} (h0 : SzI (slotOf s 0)) (h1 : SzI (slotOf s 1)) (i : Nat) (hi : i ≤ 1) : dlook s.d0 s.d1 (i : Int) = 0 := by
  have e0 : sbad s.d0 = 0 := sbad_ok (by have := h0.1; show (slotOf s 0).1.size ≤ _; omega) h0.2.1 h0.2.2
  have e1 : sbad s.d1 = 0 := sbad_ok (by have := h1.1; show (slotOf s 1).1.size ≤ _; omega) h1.2.1 h1.2.2
  unfold dlook dchk
  rw [e0, e1]
  rw [if_neg (by simp), if_neg (by omega)]
theorem ShI.sz (h : ShI s m g b tN) (i : Nat) (hi : i ≤ 1) : SzI (slotOf s i) := by
  have h1 := h.at1
  by_cases e : i = s.at_
  · subst e; exact h.szc
  · obtain rfl : i = 1 - s.at_ := by omega
    exact h.szo
theorem ShI.look (h : ShI s m g b tN) (i : Nat) (hi : i ≤ 1) : dlook s.d0 s.d1 (i : Int) = 0 := look_of (h.sz 0 (by omega)) (h.sz 1 (by omega)) i hi
end
/-! what is done to a slot -/
theorem slot_put (s : Sh) (i j : Nat) (t : ByteArray) (hi : i ≤ 1) (hj : j ≤ 1) (hs : (slotOf s i).1.size + t.size ≤ 1048576) : slotOf (putS s i t) j = if j = i then ((slotOf s i).1 ++ t, (slotOf s i).2) else slotOf s j := by
  obtain rfl | rfl : i = 0 ∨ i = 1 := by omega
  · have hs : s.d0.1.size + t.size ≤ 1048576 := hs
    have e : dapp s.d0 s.d1 ((0 : Nat) : Int) t = ((s.d0.1 ++ t, s.d0.2), s.d1, 0) := by unfold dapp; rw [if_pos (show ((0 : Nat) : Int) = 0 from rfl), if_neg (by omega)]
    unfold putS slotOf
    rw [e]
    (rcases (show j = 0 ∨ j = 1 by omega) with rfl | rfl) <;> rfl
  · have hs : s.d1.1.size + t.size ≤ 1048576 := hs
    have e : dapp s.d0 s.d1 ((1 : Nat) : Int) t = (s.d0, (s.d1.1 ++ t, s.d1.2), 0) := by unfold dapp; rw [if_neg (by decide), if_neg (by omega)]
    unfold putS slotOf
    rw [e]
    (rcases (show j = 0 ∨ j = 1 by omega) with rfl | rfl) <;> rfl
theorem slot_trim (s : Sh) (i j : Nat) (n : Int) (hi : i ≤ 1) (hj : j ≤ 1) : slotOf (trimSh s i n) j = if j = i then trimS (slotOf s i) n else slotOf s j := by
  obtain rfl | rfl : i = 0 ∨ i = 1 := by omega
  · (rcases (show j = 0 ∨ j = 1 by omega) with rfl | rfl) <;> rfl
  · (rcases (show j = 0 ∨ j = 1 by omega) with rfl | rfl) <;> rfl
theorem slot_syn (s : Sh) (i j : Nat) (hi : i ≤ 1) (hj : j ≤ 1) : slotOf (syncSh s i) j = if j = i then ((slotOf s i).1, ((slotOf s i).1.size : Int)) else slotOf s j := by
  obtain rfl | rfl : i = 0 ∨ i = 1 := by omega
  · (rcases (show j = 0 ∨ j = 1 by omega) with rfl | rfl) <;> rfl
  · (rcases (show j = 0 ∨ j = 1 by omega) with rfl | rfl) <;> rfl
theorem trim_emp {x : Slt} (h : SzI x) : Emp (trimS x 0) := by
  refine ⟨?_, ?_⟩
  · show (x.1.extract 0 (0 : Int).toNat).size = 0
    rw [← bs_len, bs_extract]
    simp
  · show min x.2 0 = 0
    have := h.2.1
    omega
theorem emp_put {x : Slt} (h : Emp x) (t : ByteArray) : (x.1 ++ t).data.toList = t.data.toList := by
  rw [bs_append]
  have : x.1.data.toList = [] := List.eq_nil_of_length_eq_zero h.1
  rw [this, List.nil_append]
theorem frB_flat (r : Rv) : (frB r).data.toList = flat [frR r] := by rw [frB_tx]; simp [flat]
theorem hdB_flat (g b : Nat) (t : List (Nat × Nat)) (tx : ByteArray) : (hdB g b t tx).data.toList = flat (SF g b t tx [] none) := by rw [hdB_tx]; simp [SF, flat]
theorem doneT_flat : doneT.data.toList = flat [doneF] := by rw [doneT_tx]; simp [flat, doneF]
end Go.Proofs.Ytmnnaemcjmiplaa
