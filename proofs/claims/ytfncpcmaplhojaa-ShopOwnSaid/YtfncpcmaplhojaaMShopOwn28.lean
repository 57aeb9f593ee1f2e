/- walk of scrivkeep.ShopOwn. -/
import Derived.Test.YtfncpcmaplhojaaMShopOwn27
import Derived.Test.YtfncpcmaplhojaaMShopOwn16
namespace Go.Proofs.Ytfncpcmaplhojaa
open Go.ChangeShapes Go.WideShapes Go.RowKit
set_option linter.unusedVariables false
set_option linter.unusedSimpArgs false
set_option maxRecDepth 100000
set_option maxHeartbeats 4000000

theorem run_eq_slots (d : Nat) (xs ys : Array Value) (w : World) : (Op.equalIn (d + 1) 93 (.agg xs) (.agg ys)).run Try.prog w = (Op.eqItems d 92 2 xs ys [0, 1]).run Try.prog w := by
  have hi : (Try.prog.info? 92).isSome = true := by kernel_rfl
  obtain ⟨i, hi⟩ := Option.isSome_iff_exists.1 hi
  have hc : Try.prog.cellsOf 92 = 2 := by kernel_rfl
  rw [run_equalIn_array w d xs ys Try.underlying93 hi, hc]
  rfl
attribute [local go_sem] run_eq_slots Op.eqItems
theorem rev_size : (Try.prog.info? 29).map (·.size) = some 3 := by kernel_rfl
theorem walk_ShopOwn (v : Value) (l : List Rv) (w : World) (h : IsRevsN w v l) :
    Calls Try.prog 12 #[v] w fun e w' => e = .returned (.bool true) ∧ Below w.heap.size w w' := by
  obtain ⟨A, n, c, rfl, hrd, hn⟩ := h
  have Hnl := Lib.hid hrd.1
  have hle : (n : Int) ≤ 9223372036854775807 := by omega
  have HL := Lib.hid hrd
  clear hrd
  obtain ⟨B, hB⟩ : ∃ B, w.heap.size = B := ⟨_, rfl⟩
  have HBw := Lib.hid hB
  have HL := Lib.hid (hB ▸ HL.out)
  clear hB
  go_enter Try.func12, Try.ntmps12
  go_wp2_with fail
  refine (first_any ⟨#[97]⟩ (by decide) w).mono ?_
  rintro e x1 ⟨Af, rfl, hrf, hb1⟩
  have hc := filledS_any [(1, 1, [(2, 0, ⟨#[97]⟩)])] (some ⟨x1.heap.size, 0, none⟩) 1 1 (x1.alloc (.cells #[.int .i64 1, .int .i64 1, .slice Af 1 1] 29)) (RdR.built1 x1 1 1 Af 1 1 [(2, 0, ⟨#[97]⟩)] hrf)
  have Hc := Lib.hid hc
  have Hb1 := Lib.hid (hb1.trans (((Below.refl x1.heap.size x1).alloc (Nat.le_refl _) (.cells #[.int .i64 1, .int .i64 1, .slice Af 1 1] 29)).mono hb1.size))
  clear hc hrf hb1
  go_wp2_with fail
  refine Hc.out.mono ?_
  rintro e x2 ⟨q0, rfl, hm0, hb2⟩
  have hc := shead_M q0 _ none _ x2 hm0.toM (fillS_ok _ shN Sh1.new).hg
  rw [fill_ah] at hc
  have Hc2 := Lib.hid hc
  have Hb2 := Lib.hid (Hb1.out.trans (hb2.mono Hb1.out.size))
  clear hc hm0 hb2 Hc Hb1
  go_wp2_with fail
  refine Hc2.out.mono ?_
  rintro e x3 ⟨rfl, hb3⟩
  have Hb3 := Lib.hid (Hb2.out.trans (hb3.mono Hb2.out.size))
  have hc := filledS_any [] none 0 0 x3 (RdR.nil x3 _)
  have Hc := Lib.hid hc
  clear hc hb3 Hb2 Hc2
  go_wp2_with fail
  refine Hc.out.mono ?_
  rintro e x4 ⟨qs, rfl, hms, hb4⟩
  have Hb4 := Lib.hid (Hb3.out.trans (hb4.mono Hb3.out.size))
  have hbB : B ≤ x4.heap.size := by have := Hb4.out.size; have := HBw.out; omega
  have hc := filledS_any l A n c x4 ((HL.out.rd.below (HBw.out ▸ Hb4.out)).more hbB)
  have Hc4 := Lib.hid hc
  have hM := hms.toM
  have Hms := Lib.hid hM
  have hx3 : B ≤ x3.heap.size := by have := Hb3.out.size; have := HBw.out; omega
  clear hc hb4 Hb3 Hc hms hM
  go_wp2_with fail
  refine Hc4.out.mono ?_
  rintro e x5 ⟨qt, rfl, hmt, hb5⟩
  have htwo : TwoX x5 B (fun _ => False) qs qt (fillS shN []) (fillS shN l) := ⟨_, _, Hms.out.below hb5, hmt.toM, fun k h1 h2 => by have := h1.2; have := h2.1; omega, fun k h => by have := h.1; omega, fun k h => h.elim⟩
  have Htwo := Lib.hid htwo
  have Hb5 := Lib.hid (HBw.out ▸ (Hb4.out.trans (hb5.mono Hb4.out.size)) : Below B w x5)
  clear htwo hmt hb5 Hms Hb4 Hc4 hx3 hbB
  go_upto_region 6 with (fail)
  go_loopw [6, 7, 8, 9, 11, 31] (fun b1 b2 av ev b3 iv wr => ∃ (k : Nat), k ≤ n ∧ iv = .int .i64 k ∧ Hid (TwoX wr B (fun _ => False) qs qt (fillS shN (l.take k)) (fillS shN l)) ∧ Hid (Below B w wr)) (fun _ _ _ _ _ iv _ => n - (intOf iv).toNat)
  case atStart => exact ⟨0, by omega, rfl, Htwo, Hb5⟩
  case round =>
    obtain ⟨k, hk, rfl, htw, hbw⟩ := hrel
    by_cases hlt : k < n
    · have hkl : k < l.length := by have := Hnl.out; omega
      have htk : l.take (k + 1) = l.take k ++ [l[k]] := List.take_succ_eq_append_getElem hkl
      obtain ⟨b, o, A1, n1, c1, rfl, hbl, d0, d1, d2, hrd, hn1, hA1⟩ := (HL.out.below hbw.out).at_ k hlt
      obtain ⟨f, hf⟩ : ∃ f, l[k] = f := ⟨_, rfl⟩
      rw [hf] at htk d0 d1 hrd
      obtain ⟨ra, rb, d⟩ := f
      simp only at d0 d1 d2 hrd
      have hdl : n1 = d.length := hrd.1
      have hBr : B ≤ wr.heap.size := by have := hbw.out.size; have := HBw.out; omega
      have hbw' : b < wr.heap.size := by omega
      have hk0 : (0 : Int) ≤ (k : Int) := by omega
      have hkn : (k : Int) < (n : Int) := by omega
      have Hrd := Lib.hid (hrd.more hBr)
      have Htk := Lib.hid htk
      have Hdl := Lib.hid hdl
      have Hdt := Lib.hid hrd.2.2
      clear hrd hA1 htk hdl hf
      go_upto_region 8 with (fail)
      have hal := (Below.refl wr.heap.size wr).alloc (Nat.le_refl _) (.cells #[.int .i64 ra, .int .i64 rb, .slice A1 n1 c1] 29)
      have htw2 := htw.out.made hal
      have hb := hbw.out.alloc hBr (.cells #[.int .i64 ra, .int .i64 rb, .slice A1 n1 c1] 29)
      have kz := Blk.new wr 29 #[.int .i64 ra, .int .i64 rb, .slice A1 n1 c1]
      have Hrd2 := Lib.hid (Hrd.out.stepA (.cells #[.int .i64 ra, .int .i64 rb, .slice A1 n1 c1] 29))
      have hs1 : (wr.alloc (.cells #[.int .i64 ra, .int .i64 rb, .slice A1 n1 c1] 29)).heap.size = wr.heap.size + 1 := World.size_alloc _ _
      obtain ⟨U, hU⟩ : ∃ U, wr.alloc (.cells #[.int .i64 ra, .int .i64 rb, .slice A1 n1 c1] 29) = U := ⟨_, rfl⟩
      rw [hU] at htw2 hb kz Hrd2 hs1 ⊢
      obtain ⟨z, hz⟩ : ∃ z, wr.heap.size = z := ⟨_, rfl⟩
      rw [hz] at kz hs1 hBr htw2 ⊢
      have Htw := Lib.hid htw2
      have Hb := Lib.hid hb
      have a0 := kz.cell 0
      have a1 := kz.cell 1
      have a2 := kz.cell 2
      have lz := kz.lt
      have Kz := Lib.hid kz
      have HBU : Hid (B ≤ U.heap.size) := Lib.hid (by omega)
      have HBz : Hid (B ≤ z) := Lib.hid hBr
      have Hzz := Lib.hid hz
      clear d0 d1 d2 hbl hbw' hU hz hs1 kz htw hbw Hrd htw2 hb hBr hal
      have KeepB := Lib.hid (fun (w' : World) (h : Blk w' z 29 #[.int .i64 ra, .int .i64 rb, .slice A1 n1 c1]) => (⟨h, h.cell 0, h.cell 1, h.cell 2, h.lt⟩ : Blk w' z 29 #[.int .i64 ra, .int .i64 rb, .slice A1 n1 c1] ∧ w'.cell? ⟨z, 0, none⟩ = some (.int .i64 ra) ∧ w'.cell? ⟨z, 1, none⟩ = some (.int .i64 rb) ∧ w'.cell? ⟨z, 2, none⟩ = some (.slice A1 n1 c1) ∧ z < w'.heap.size))
      have KeepS := Lib.hid (fun (w' : World) (h : Below U.heap.size U w') => KeepB.out w' (Kz.out.below h lz))
      have hzU : z < U.heap.size := lz
      have hS : Blk U.drew z 29 #[.int .i64 ra, .int .i64 rb, .slice A1 n1 c1] ∧ U.drew.cell? ⟨z, 0, none⟩ = some (.int .i64 ra) ∧ U.drew.cell? ⟨z, 1, none⟩ = some (.int .i64 rb) ∧ U.drew.cell? ⟨z, 2, none⟩ = some (.slice A1 n1 c1) ∧ z < U.drew.heap.size := KeepS.out _ (Below.drew (Below.refl _ _))
      refine wp_region_join (S := fun w' => Blk w' z 29 #[.int .i64 ra, .int .i64 rb, .slice A1 n1 c1] ∧ w'.cell? ⟨z, 0, none⟩ = some (.int .i64 ra) ∧ w'.cell? ⟨z, 1, none⟩ = some (.int .i64 rb) ∧ w'.cell? ⟨z, 2, none⟩ = some (.slice A1 n1 c1) ∧ z < w'.heap.size) (fun a a' w' => ∃ (A5 : Option Addr) (c5 z2 : Nat), a' = (((((((((a.put (some 35) (.pointer (some ⟨z, 0, none⟩))).put (some 36) (.int .i64 ra)).put (some 37) (.pointer (some ⟨z, 1, none⟩))).put (some 38) (.int .i64 rb)).put (some 39) (.pointer (some ⟨z, 2, none⟩))).put (some 40) (.slice A1 n1 c1)).put (some 41) (.slice A5 n1 c5)).put (some 42) (.agg #[.int .i64 ra, .int .i64 rb, .slice A5 n1 c5])).put (some 7) (.pointer (some ⟨z2, 0, none⟩))) ∧ Blk w' z2 29 #[.int .i64 ra, .int .i64 rb, .slice A5 n1 c5] ∧ OwnP w' U.heap.size (.slice A5 n1 c5) d ∧ Below U.heap.size U w' ∧ U.heap.size ≤ z2 ∧ z2 < w'.heap.size) (by kernel_rfl) ?_ ?_
      · change wpAnyH _ _ _ _ _ _ _ _ U.drew
        have hb0 : Below U.heap.size U U.drew := Below.drew (Below.refl _ _)
        refine wpAnyH_takeD 35 (i := 0) rfl rfl (by kernel_rfl) (by kernel_rfl) (by kernel_rfl) (fun _ _ _ h => h) (v := .pointer (some ⟨z, 0, none⟩)) (.inl ⟨rfl, fun w' h' => by go_simp⟩) hS ?_
        simp only [Act.put, List.setIfInBounds_toArray, List.set_cons_zero, List.set_cons_succ]
        refine wpAnyH_takeD 36 (i := 1) rfl rfl (by kernel_rfl) (by kernel_rfl) (by kernel_rfl) (fun _ _ _ h => h) (v := .int .i64 ra) (.inl ⟨rfl, fun w' h' => by have h1 := h'.2.1; go_simp⟩) hS ?_
        simp only [Act.put, List.setIfInBounds_toArray, List.set_cons_zero, List.set_cons_succ]
        refine wpAnyH_takeD 37 (i := 2) rfl rfl (by kernel_rfl) (by kernel_rfl) (by kernel_rfl) (fun _ _ _ h => h) (v := .pointer (some ⟨z, 1, none⟩)) (.inl ⟨rfl, fun w' h' => by go_simp⟩) hS ?_
        simp only [Act.put, List.setIfInBounds_toArray, List.set_cons_zero, List.set_cons_succ]
        refine wpAnyH_takeD 38 (i := 3) rfl rfl (by kernel_rfl) (by kernel_rfl) (by kernel_rfl) (fun _ _ _ h => h) (v := .int .i64 rb) (.inl ⟨rfl, fun w' h' => by have h1 := h'.2.2.1; go_simp⟩) hS ?_
        simp only [Act.put, List.setIfInBounds_toArray, List.set_cons_zero, List.set_cons_succ]
        refine wpAnyH_takeD 39 (i := 4) rfl rfl (by kernel_rfl) (by kernel_rfl) (by kernel_rfl) (fun _ _ _ h => h) (v := .pointer (some ⟨z, 2, none⟩)) (.inl ⟨rfl, fun w' h' => by go_simp⟩) hS ?_
        simp only [Act.put, List.setIfInBounds_toArray, List.set_cons_zero, List.set_cons_succ]
        refine wpAnyH_takeD 40 (i := 5) rfl rfl (by kernel_rfl) (by kernel_rfl) (by kernel_rfl) (fun _ _ _ h => h) (v := .slice A1 n1 c1) (.inl ⟨rfl, fun w' h' => by have h1 := h'.2.2.2.1; go_simp⟩) hS ?_
        simp only [Act.put, List.setIfInBounds_toArray, List.set_cons_zero, List.set_cons_succ]
        have hE : ∀ (g : Nat) (w' : World), Below U.heap.size U w' → Calls Try.prog 36 #[.slice A1 n1 c1] w' (fun e w'' => ∃ v, e = .returned v ∧ Below w'.heap.size w' w'' ∧ ∃ A5 c5, v = .slice A5 n1 c5 ∧ OwnP w'' w'.heap.size (.slice A5 n1 c5) d) := fun g w' hB => (cloneB_any d A1 n1 c1 w' ((Hrd2.out.below hB).more hB.size) hn1).mono (fun e w'' hh => by
          obtain ⟨v5, h1, h2, h3⟩ := hh
          obtain ⟨A5, c5, e5⟩ := h2.form_ Hdl.out.symm
          subst e5
          exact ⟨_, h1, h3, A5, c5, rfl, h2⟩)
        refine wpAnyH_all (rs := [6, 8]) (by kernel_rfl) (List.cons_ne_nil _ _) (fun i6 hi6 => ?_)
        simp only [List.mem_cons, List.not_mem_nil, or_false] at hi6
        rcases hi6 with rfl | rfl
        · refine wpOp_enterE 41 rfl rfl rfl 36 #[.slice A1 n1 c1] (by go_simp) _ (hE 0 _ hb0) ?_
          rintro v8 w8 ⟨hb8, A5, c5, rfl, hO8⟩
          simp only [Act.put, List.setIfInBounds_toArray, List.set_cons_zero, List.set_cons_succ]
          have hu8 : Below U.heap.size U w8 := hb0.trans hb8
          have hS8 := KeepS.out _ hu8
          refine ⟨hS8, ?_⟩
          refine wpAnyH_takeD 42 (i := 7) rfl rfl (by kernel_rfl) (by kernel_rfl) (by kernel_rfl) (fun _ _ _ h => h) (v := .agg #[.int .i64 ra, .int .i64 rb, .slice A5 n1 c5]) (.inl ⟨rfl, fun w' h' => by go_simp⟩) hS8 ?_
          simp only [Act.put, List.setIfInBounds_toArray, List.set_cons_zero, List.set_cons_succ]
          refine wpAnyH_all (rs := [8]) (by kernel_rfl) (List.cons_ne_nil _ _) (fun i8 hi8 => ?_)
          obtain rfl := List.mem_singleton.1 hi8
          refine wpOp_valueW (w' := w8.alloc (.cells #[.int .i64 0, .int .i64 0, .slice none 0 0] 29)) 7 rfl rfl rfl (.pointer (some ⟨w8.heap.size, 0, none⟩)) (by go_simp) ?_
          simp only [Act.put, List.setIfInBounds_toArray, List.set_cons_zero, List.set_cons_succ]
          have hu9 := hu8.alloc hu8.size (.cells #[.int .i64 0, .int .i64 0, .slice none 0 0] 29)
          refine ⟨KeepS.out _ hu9, ?_⟩
          refine wpAnyH_all (rs := [9]) (by kernel_rfl) (List.cons_ne_nil _ _) (fun i9 hi9 => ?_)
          obtain rfl := List.mem_singleton.1 hi9
          have kn := Blk.new w8 29 #[.int .i64 0, .int .i64 0, .slice none 0 0]
          have hs8 := hu8.size
          refine wpOp_store_blk rfl rfl rfl _ _ _ rfl w8.heap.size #[.int .i64 ra, .int .i64 rb, .slice A5 n1 c5] (by kernel_rfl) (by kernel_rfl) _ _ kn rev_size rfl (by simp [Value.oneCell']) ?_
          have hb9 := below_setRow hu9 w8.heap.size #[.int .i64 ra, .int .i64 rb, .slice A5 n1 c5] hs8
          refine ⟨KeepS.out _ hb9, ?_⟩
          refine wpAnyH_done (by kernel_rfl) ?_ _
          have hO8' : OwnP w8 U.heap.size (.slice A5 n1 c5) d := own_base hO8 (Nat.le_refl _)
          have hO9 := hO8'.below ((Below.refl w8.heap.size w8).alloc (Nat.le_refl _) (.cells #[.int .i64 0, .int .i64 0, .slice none 0 0] 29))
          exact ⟨A5, c5, w8.heap.size, rfl, kn.row _, own_only hO9 (Only.setRow _ _ _) (fun k hk e => by have e : k = w8.heap.size := e; rw [e] at hk; exact own_blk_ne hO9 kn (by decide) hk), hb9, hs8, by simp⟩
        · refine wpOp_valueW (w' := U.drew.alloc (.cells #[.int .i64 0, .int .i64 0, .slice none 0 0] 29)) 7 rfl rfl rfl (.pointer (some ⟨U.heap.size, 0, none⟩)) (by go_simp) ?_
          simp only [Act.put, List.setIfInBounds_toArray, List.set_cons_zero, List.set_cons_succ]
          have hu8 := hb0.alloc hb0.size (.cells #[.int .i64 0, .int .i64 0, .slice none 0 0] 29)
          have kn := Blk.new U.drew 29 #[.int .i64 0, .int .i64 0, .slice none 0 0]
          obtain ⟨W8, hW8⟩ : ∃ W8, U.drew.alloc (.cells #[.int .i64 0, .int .i64 0, .slice none 0 0] 29) = W8 := ⟨_, rfl⟩
          have hs0 : W8.heap.size = U.heap.size + 1 := by rw [← hW8]; exact World.size_alloc _ _
          have hud : U.drew.heap.size = U.heap.size := rfl
          rw [hW8] at hu8 kn ⊢
          refine ⟨KeepS.out _ hu8, ?_⟩
          refine wpAnyH_all (rs := [6]) (by kernel_rfl) (List.cons_ne_nil _ _) (fun i8 hi8 => ?_)
          obtain rfl := List.mem_singleton.1 hi8
          refine wpOp_enterE 41 rfl rfl rfl 36 #[.slice A1 n1 c1] (by go_simp) _ (hE 1 _ hu8) ?_
          rintro v8 w8 ⟨hb8, A5, c5, rfl, hO8⟩
          simp only [Act.put, List.setIfInBounds_toArray, List.set_cons_zero, List.set_cons_succ]
          have hu9 : Below U.heap.size U w8 := hu8.trans (hb8.mono hu8.size)
          have hS8 := KeepS.out _ hu9
          refine ⟨hS8, ?_⟩
          refine wpAnyH_takeD 42 (i := 7) rfl rfl (by kernel_rfl) (by kernel_rfl) (by kernel_rfl) (fun _ _ _ h => h) (v := .agg #[.int .i64 ra, .int .i64 rb, .slice A5 n1 c5]) (.inl ⟨rfl, fun w' h' => by go_simp⟩) hS8 ?_
          simp only [Act.put, List.setIfInBounds_toArray, List.set_cons_zero, List.set_cons_succ]
          refine wpAnyH_all (rs := [9]) (by kernel_rfl) (List.cons_ne_nil _ _) (fun i9 hi9 => ?_)
          obtain rfl := List.mem_singleton.1 hi9
          have kn8 := kn.below hb8 kn.lt
          refine wpOp_store_blk rfl rfl rfl _ _ _ rfl U.heap.size #[.int .i64 ra, .int .i64 rb, .slice A5 n1 c5] (by kernel_rfl) (by kernel_rfl) _ _ kn8 rev_size rfl (by simp [Value.oneCell']) ?_
          have hb9 := below_setRow hu9 U.heap.size #[.int .i64 ra, .int .i64 rb, .slice A5 n1 c5] (Nat.le_refl _)
          refine ⟨KeepS.out _ hb9, ?_⟩
          refine wpAnyH_done (by kernel_rfl) ?_ _
          have hs8 := hb8.size
          have hO9 := own_base hO8 (show U.heap.size ≤ W8.heap.size by omega)
          exact ⟨A5, c5, U.heap.size, rfl, kn8.row _, own_only hO9 (Only.setRow _ _ _) (fun k hk e => by have e : k = U.heap.size := e; rw [e] at hk; exact own_blk_ne hO9 kn8 (by decide) hk), hb9, Nat.le_refl _, by simp; omega⟩
      rintro _ V ⟨A5, c5, z2, rfl, kz2, hO9, hb9, hzX⟩
      simp only [Act.put, List.setIfInBounds_toArray, List.set_cons_zero, List.set_cons_succ]
      clear a0 a1 a2 hS hzU lz KeepB KeepS
      have hX := (Htw.out.made hb9).less (Y := fun k => U.heap.size ≤ k ∧ k < V.heap.size) (fun k hk => .inr hk)
      have hbV := Hb.out.trans (hb9.mono HBU.out)
      have hBV : B ≤ V.heap.size := by have := HBU.out; have := hb9.size; omega
      have hrdV : RdP V V.heap.size A5 n1 c5 d := rdSx hO9 Hdt.out
      have hadd := hX.add (fillS_ok (l.take k) shN Sh1.new) hBV ra rb d A5 n1 c5 hrdV
      rw [addG_fill, ← Htk.out] at hadd
      have Hadd := Lib.hid hadd
      have HO := Lib.hid hO9
      have HbV := Lib.hid hbV
      have Kz2 := Lib.hid kz2
      have HzX := Lib.hid hzX
      have HBV := Lib.hid hBV
      have HZ : Hid (∀ q, (Value.slice A5 n1 c5).ownBlock = some q → U.heap.size ≤ q ∧ q < V.heap.size) := Lib.hid fun q hq => ⟨own_ge hO9 q hq, own_lt hO9 q hq⟩
      obtain ⟨Us, hUs⟩ : ∃ Us, U.heap.size = Us := ⟨_, rfl⟩
      obtain ⟨Vs, hVs⟩ : ∃ Vs, V.heap.size = Vs := ⟨_, rfl⟩
      rw [hUs, hVs] at HZ HzX
      rw [hUs, hVs] at Hadd
      rw [hUs] at HO
      rw [hVs] at HBV
      have HUs := Lib.hid hUs
      have HVs := Lib.hid hVs
      clear hadd hX hO9 hb9 hbV hBV hrdV hzX hUs hVs Kz Hb Htw Hrd2
      go_wp2_with (first | (refine wpList_load_blk rfl _ (.tmp 7) rfl z2 rfl _ (rev_row kz2 rfl) ?_))
      refine Hadd.out.mono ?_
      rintro e w2 ⟨⟨u, rfl⟩, htw2, ho2, hq2⟩
      have kz3 := Kz2.out.only ho2 (fun h => h HzX.out)
      have hO2 := own_only HO.out ho2 (fun q hq h => h (HZ.out q hq))
      have a2 := kz3.cell 2
      have lz3 := kz3.lt
      have hb2 := HbV.out.trans hq2
      have Hsp := Lib.hid (spoil_spo (7, 0, ⟨#[]⟩) (.slice A5 n1 c5) w2 (OwnP.spo hO2))
      have Htw2 := Lib.hid htw2
      have Hb2 := Lib.hid hb2
      have hBw2 : B ≤ w2.heap.size := by have := ho2.2.2.2.1; have := HBV.out; have := HVs.out; omega
      have HB2 := Lib.hid hBw2
      clear kz2 Kz2 kz3 hO2 ho2 hq2 htw2 hb2 hBw2 Hadd HO HbV
      go_wp2_with fail
      refine Hsp.out.mono ?_
      rintro e w3 ⟨rfl, ho3, -⟩
      have htw3 := Htw2.out.only ho3 (fun q hq => HZ.out q hq)
      have hb3 := Hb2.out.trans (ho3.below HB2.out (fun q hq => by have := (HZ.out q hq).1; have := HBU.out; have := HUs.out; omega))
      have hrv := htw3.revs (fillS_ok (l.take (k + 1)) shN Sh1.new) (by rw [base_fill]; rfl)
      have Hrv := Lib.hid hrv
      have Htw3 := Lib.hid (htw3.less (Y := fun _ => False) (fun q h => h.elim))
      have Hb3 := Lib.hid hb3
      have HB3 : Hid (B ≤ w3.heap.size) := Lib.hid (by have := ho3.2.2.2.1; have := HB2.out; omega)
      clear a2 lz3 ho3 htw3 hb3 hrv Hsp Htw2 Hb2 HB2 HZ HzX HBV HUs HVs
      go_wp2_with fail
      refine Hrv.out.mono ?_
      rintro e w4 ⟨sl4, ss4, rfl, hv4, hb4⟩
      obtain ⟨A4, n4, c4⟩ := sl4
      obtain ⟨L4, hL4⟩ : ∃ L4, (fillS shN (l.take (k + 1))).log.revs = L4 := ⟨_, rfl⟩
      rw [hL4] at hv4
      obtain ⟨A9, c9, e9⟩ := hv4.form
      have hn4 : n4 = L4.length := by injection e9
      have hX4 := (Htw3.out.made hb4).less (Y := fun q => w3.heap.size ≤ q ∧ q < w4.heap.size) (fun q hq => .inr hq)
      have hb4' := Hb3.out.trans (hb4.mono HB3.out)
      have hBw4 : B ≤ w4.heap.size := by have := hb4.size; have := HB3.out; omega
      have hn64 : n4 ≤ 64 := by rw [hn4, ← hL4]; exact (fillS_ok (l.take (k + 1)) shN Sh1.new).hg.len
      have hrow := hv4.row
      rw [← hn4] at hrow
      have hspo : ∀ d ∈ ss4, Spo w4 (.slice d.1 d.2.1 d.2.2) ∧ ∀ q, (Value.slice d.1 d.2.1 d.2.2).ownBlock = some q → w3.heap.size ≤ q ∧ q < w4.heap.size := fun d hd => by
        obtain ⟨j, hj, rfl⟩ := List.getElem_of_mem hd
        have := (hv4.ds j (by rw [← hv4.len]; exact hj)).1
        exact ⟨OwnP.spo this, fun q hq => ⟨own_ge this q hq, own_lt this q hq⟩⟩
      have hlen4 := hv4.len
      obtain ⟨Z3, hZ3⟩ : ∃ Z3, w3.heap.size = Z3 := ⟨_, rfl⟩
      obtain ⟨Z4, hZ4⟩ : ∃ Z4, w4.heap.size = Z4 := ⟨_, rfl⟩
      rw [hZ3, hZ4] at hX4 hspo
      rw [hZ3] at hrow HB3
      rw [hZ4] at hBw4
      have HX4 := Lib.hid hX4
      have Hrow := Lib.hid hrow
      have Hlen4 := Lib.hid hlen4
      have Hblk := Lib.hid (fun d hd => (hspo d hd).2)
      have Hspo : Hid (∀ d ∈ ss4, Spo w4 (.slice d.1 d.2.1 d.2.2)) := Lib.hid (fun d hd => (hspo d hd).1)
      have Hb4 := Lib.hid hb4'
      have HZ4 : Hid (Z4 ≤ w4.heap.size) := Lib.hid (by omega)
      have HB4 := Lib.hid hBw4
      have Hn4 := Lib.hid hn4
      clear e9 hn4 hv4 hb4 hL4 hX4 hb4' hBw4 hrow hspo hlen4 hZ3 hZ4 Hrv Htw3 Hb3
      go_upto_region 15 with (fail)
      obtain ⟨W5, rfl⟩ : ∃ W5, W5 = wr := ⟨_, rfl⟩
      go_loopw [11, 59] (fun b3 iv wr => ∃ (j : Nat), j ≤ n4 ∧ iv = .int .i64 j ∧ Hid (TwoX wr B (fun q => Z3 ≤ q ∧ q < Z4) qs qt (fillS shN (l.take (k + 1))) (fillS shN l)) ∧ Hid (wr.ownsRow Z3 29 3 (.slice A4 n4 c4) n4 (rc L4 ss4)) ∧ Hid (∀ d ∈ ss4, Spo wr (.slice d.1 d.2.1 d.2.2)) ∧ Hid (Z4 ≤ wr.heap.size) ∧ Hid (Below B w wr)) (fun _ iv _ => n4 - (intOf iv).toNat)
      case atStart => exact ⟨0, by omega, rfl, HX4, Hrow, Hspo, HZ4, Hb4⟩
      case round =>
        obtain ⟨j, hj, rfl, hX, hrow, hspo, hz4, hbb⟩ := hrel
        by_cases hjt : j < n4
        · have hjl : j < L4.length := by have := Hn4.out; omega
          have hjs : j < ss4.length := by have := Hlen4.out; omega
          obtain ⟨b4, c4', e4, -⟩ := World.ownsRow.form hrow.out (by omega)
          injection e4 with e4 e4' e4''
          subst e4
          have hb4l := (World.ownsRow.lt hrow.out b4 rfl).2
          obtain ⟨q0, q1, q2⟩ := rc_at L4 ss4 Hlen4.out j hjl
          have hrl := rc_len L4 ss4 Hlen4.out
          have hj3 : j * 3 + 2 < (rc L4 ss4).length := by rw [hrl]; omega
          have d0 := World.ownsRow.cellAt hrow.out (j * 3) (by omega)
          have d1 := World.ownsRow.cellAt hrow.out (j * 3 + 1) (by omega)
          have d2 := World.ownsRow.cellAt hrow.out (j * 3 + 2) (by omega)
          rw [q0] at d0
          rw [q1] at d1
          rw [q2] at d2
          have Hmem := Lib.hid (List.getElem_mem hjs : ss4[j] ∈ ss4)
          obtain ⟨dd, hdd⟩ : ∃ dd, ss4[j] = dd := ⟨_, rfl⟩
          rw [hdd] at d2 Hmem
          obtain ⟨f, hf⟩ : ∃ f, L4[j] = f := ⟨_, rfl⟩
          rw [hf] at d0 d1
          obtain ⟨ya, yb, yd⟩ := f
          obtain ⟨A6, n6, c6⟩ := dd
          simp only at d0 d1 d2
          have hj0 : (0 : Int) ≤ (j : Int) := by omega
          have hjn : (j : Int) < (n4 : Int) := by omega
          clear q0 q1 q2 hrl hdd hf e4' e4''
          go_upto_region 17 with (fail)
          have hal := (Below.refl wr.heap.size wr).alloc (Nat.le_refl _) (.cells #[.int .i64 ya, .int .i64 yb, .slice A6 n6 c6] 29)
          have hX6 := (hX.out.made hal).less (Y := fun q => Z3 ≤ q ∧ q < Z4) (fun q hq => .inl hq)
          have hrow6 := own_below hrow.out hal
          have hspo6 : ∀ d ∈ ss4, Spo (wr.alloc (.cells #[.int .i64 ya, .int .i64 yb, .slice A6 n6 c6] 29)) (.slice d.1 d.2.1 d.2.2) := fun d hd => (hspo.out d hd).below hal
          have hBr : B ≤ wr.heap.size := by have := hz4.out; have := HB4.out; omega
          have hb6 := hbb.out.alloc hBr (.cells #[.int .i64 ya, .int .i64 yb, .slice A6 n6 c6] 29)
          have hz6 := Nat.le_trans hz4.out hal.size
          have kz := Blk.new wr 29 #[.int .i64 ya, .int .i64 yb, .slice A6 n6 c6]
          obtain ⟨U6, hU⟩ : ∃ U6, wr.alloc (.cells #[.int .i64 ya, .int .i64 yb, .slice A6 n6 c6] 29) = U6 := ⟨_, rfl⟩
          rw [hU] at hX6 hrow6 hspo6 hb6 hz6 kz ⊢
          obtain ⟨z6, hzz⟩ : ∃ z6, wr.heap.size = z6 := ⟨_, rfl⟩
          rw [hzz] at kz ⊢
          have a2 := kz.cell 2
          have lz := kz.lt
          have Hsp := Lib.hid (spoil_spo (8, 0, ⟨#[]⟩) (.slice A6 n6 c6) U6 (hspo6 _ Hmem.out))
          have HX6 := Lib.hid hX6
          have Hrow6 := Lib.hid hrow6
          have Hspo6 := Lib.hid hspo6
          have Hb6 := Lib.hid hb6
          have Hz6 := Lib.hid hz6
          clear d0 d1 d2 hb4l hU hzz hal hX hrow hspo hz4 hbb hX6 hrow6 hspo6 hb6 hz6 kz hBr
          go_wp2_with fail
          refine Hsp.out.mono ?_
          rintro e w7 ⟨rfl, ho7, hsp7⟩
          have hq7 := Hblk.out _ Hmem.out
          have hX7 := HX6.out.only ho7 (fun q hq => hq7 q hq)
          have hrow7 := Spo.row (Hspo6.out _ Hmem.out) ho7 Hrow6.out (by decide)
          have hb7 := Hb6.out.trans (ho7.below (by have := Hz6.out; have := HB4.out; omega) (fun q hq => by have := (hq7 q hq).1; have := HB3.out; omega))
          have hz7 := Nat.le_trans Hz6.out ho7.2.2.2.1
          have Hspo7 : Hid (∀ d ∈ ss4, Spo w7 (.slice d.1 d.2.1 d.2.2)) := Lib.hid fun d hd => hsp7 _ (Hspo6.out d hd)
          clear ho7 hsp7 hq7 a2 lz Hsp
          have HX7 := Lib.hid hX7
          have Hrow7 := Lib.hid hrow7
          have Hb7 := Lib.hid hb7
          have Hz7 := Lib.hid hz7
          clear hX7 hrow7 hb7 hz7
          go_wp2_with fail
          go_roundw
          case rel => exact ⟨j + 1, by omega, by go_num, HX7, Hrow7, Hspo7, Hz7, Hb7⟩
          case measure => simp [intOf]; omega
        · obtain rfl : j = n4 := by omega
          have HX := Lib.hid (hX.out.less (Y := fun _ => False) (fun q h => h.elim))
          clear hX hrow hspo
          go_wp2_with fail
          go_roundw
          case rel => exact ⟨k + 1, by omega, by go_num, HX, hbb⟩
          case measure => simp [intOf]; omega
    · obtain rfl : k = n := by omega
      have htw := htw.out
      rw [List.take_of_length_le (by have := Hnl.out; omega)] at htw
      have hbw := hbw.out
      have hBr : B ≤ wr.heap.size := by have := hbw.size; have := HBw.out; omega
      obtain ⟨S, hS⟩ : ∃ S, fillS shN l = S := ⟨_, rfl⟩
      have hS1 : Sh1 S := hS ▸ fillS_ok l shN Sh1.new
      have hS0 : S.log.base = 0 := by rw [← hS, base_fill]; rfl
      rw [hS] at htw
      have hrv := htw.revs hS1 hS0
      have Hrv := Lib.hid hrv
      have Htw := Lib.hid htw
      have HS1 := Lib.hid hS1
      have HS0 := Lib.hid hS0
      clear hrv htw hS hS1 hS0
      go_wp2_with fail
      refine Hrv.out.mono ?_
      rintro e w2 ⟨sl2, ss2, rfl, hv2, hq2⟩
      obtain ⟨A2, n2, c2⟩ := sl2
      have htw2 := (Htw.out.made hq2).less (Y := fun _ => False) (fun q h => h.elim)
      have hb2 := hbw.trans (hq2.mono hBr)
      obtain ⟨B', htsw⟩ := htw2.swap
      have hrv := htsw.revs HS1.out HS0.out
      have Hrv2 := Lib.hid hrv
      have Htw2 := Lib.hid htw2
      have Hv2 := Lib.hid hv2.rd
      have hB2 : B ≤ w2.heap.size := Nat.le_trans hBr hq2.size
      clear hrv htw2 htsw hv2 hq2 Hrv hbw Htw
      go_wp2_with fail
      refine Hrv2.out.mono ?_
      rintro e w3 ⟨sl3, ss3, rfl, hv3, hq3⟩
      obtain ⟨A3, n3, c3⟩ := sl3
      have htw3 := (Htw2.out.made hq3).less (Y := fun _ => False) (fun q h => h.elim)
      have hb3 := hb2.trans (hq3.mono hB2)
      have hsv := samerevs_true S.log.revs A2 A3 n2 n3 c2 c3 w3 ((Hv2.out.below hq3).more hq3.size) hv3.rd
      have Hsv := Lib.hid hsv
      have hB3 : B ≤ w3.heap.size := Nat.le_trans hB2 hq3.size
      have Htw3 := Lib.hid htw3
      clear hsv hv3 hq3 Hv2 Hrv2 Htw2 htw3 hb2
      go_wp2_with fail
      refine Hsv.out.mono ?_
      rintro e w4 ⟨rfl, hq4⟩
      have htw4 := (Htw3.out.made hq4).less (Y := fun _ => False) (fun q h => h.elim)
      have hb4 := hb3.trans (hq4.mono hB3)
      have hB4 : B ≤ w4.heap.size := Nat.le_trans hB3 hq4.size
      obtain ⟨⟨p1, p2⟩, hp⟩ : ∃ x : Slt, S.d0 = x := ⟨_, rfl⟩
      obtain ⟨⟨p3, p4⟩, hp'⟩ : ∃ x : Slt, S.d1 = x := ⟨_, rfl⟩
      have Hp := Lib.hid hp
      have Hp' := Lib.hid hp'
      have hd := htw4.disk
      rw [hp, hp'] at hd
      unfold dvl at hd
      simp only at hd
      clear hp hp'
      have Hd := Lib.hid hd
      have Htw4 := Lib.hid htw4
      clear hd hq4 htw4 hb3 Hsv Htw3
      go_wp2_with fail
      refine Hd.out.mono ?_
      rintro e w5 ⟨rfl, hq5⟩
      have htw5 := (Htw4.out.made hq5).less (Y := fun _ => False) (fun q h => h.elim)
      have hb5 := hb4.trans (hq5.mono hB4)
      have hB5 : B ≤ w5.heap.size := Nat.le_trans hB4 hq5.size
      obtain ⟨B', htsw⟩ := htw5.swap
      have hd := htsw.disk
      rw [Hp.out, Hp'.out] at hd
      unfold dvl at hd
      simp only at hd
      have Hd2 := Lib.hid hd
      clear hd hq5 htw5 htsw Htw4 Hd
      go_wp2_with fail
      refine Hd2.out.mono ?_
      rintro e w6 ⟨rfl, hq6⟩
      have hb6 := hb5.trans (hq6.mono hB5)
      go_wp2_with fail
      go_ret
      exact ⟨rfl, HBw.out ▸ hb6⟩
end Go.Proofs.Ytfncpcmaplhojaa
