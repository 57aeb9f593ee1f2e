/- walk of scrivtop.TopTiers. -/
import Derived.Test.YtcdielgpmnhmjaaMTopTiers1
import Derived.Test.YtcdielgpmnhmjaaMTopTiers3
import Derived.Test.YtcdielgpmnhmjaaK32
import Derived.Test.YtcdielgpmnhmjaaK5
namespace Go.Proofs.Ytcdielgpmnhmjaa
open Go.ChangeShapes Go.WideShapes Go.RowKit
set_option linter.unusedVariables false
set_option linter.unusedSimpArgs false
set_option maxRecDepth 100000
set_option maxHeartbeats 4000000

theorem cover_12 : ∀ k : Fin 65, ∀ i : Fin 65, i.val ≤ k.val → (coverL 65 i.val k.val).length ≤ 12 := by decide +kernel
theorem kL_mem {last every : Int} {p : List Int} {head : Int} {k : Nat} {y : Int} (h : y ∈ kL last every p head k) : ∃ r : Nat, y = (r : Int) ∧ r < k := by
  unfold kL at h
  obtain ⟨r, hr, rfl⟩ := List.mem_map.1 h
  exact ⟨r, rfl, by have := (List.mem_filter.1 hr).1; exact List.mem_range.1 this⟩
theorem keepof_or (last every : Int) (p : List Int) (n : Nat) (hn : (n : Int) ≤ 9223372036854775807) (A : Option Addr) (np c : Nat) (w : World) (h : RdI w w.heap.size A np c p) :
    Calls Try.prog 46 #[pol last every A np c, .int .i64 n] w fun e w' => ∃ Ak nk ck E, e = .returned (.tuple #[.slice Ak nk ck, .int .i64 E]) ∧ (E = 0 → RdI w' w'.heap.size Ak nk ck (kL last every p n (n + 1))) ∧ Below w.heap.size w w' := by
  by_cases hk : kchk last every p = 0
  · by_cases hh : (n : Int) ≤ 640
    · refine (keep_good last every p n A np c w.heap.size w h (Nat.le_refl _) hk hh).mono ?_
      rintro e w' ⟨⟨v, rfl, ho⟩, hb⟩
      obtain ⟨Ak, ck, rfl, hr⟩ := ho.rd
      exact ⟨_, _, _, 0, rfl, fun _ => hr, hb⟩
    · refine (keep_arg last every p n A np c w.heap.size w h (Nat.le_refl _) hk (.inr (by omega))).mono ?_
      rintro e w' ⟨rfl, hb⟩
      exact ⟨_, _, _, 1, rfl, fun h => absurd h (by decide), hb⟩
  · refine (keep_err last every p n A np c w.heap.size w h (Nat.le_refl _) hk).mono ?_
    rintro e w' ⟨rfl, hb⟩
    exact ⟨_, _, _, _, rfl, fun h => absurd h hk, hb⟩
theorem bld_or (base : ByteArray) (hbs : base.size ≤ 140737488351232) (l : List Rv) (A : Option Addr) (n c : Nat) (w : World) (h : RdR w w.heap.size A n c l) (E : Int) (hE : txE base l = E) :
    Calls Try.prog 45 #[.string base, .slice A n c] w fun e w' => ∃ At mt ct rs uss, e = .returned (.tuple #[.slice At mt ct, .int .i64 E]) ∧ (E = 0 → OwnTier w' w.heap.size (.slice At mt ct) rs uss (tiersL l)) ∧ Below w.heap.size w w' := by
  by_cases he : E = 0
  · subst he
    refine (build_rd base l A n c w h hE _ rfl).mono ?_
    rintro e w' ⟨A1, c1, rs, uss, rfl, h1, h2, h3⟩
    exact ⟨_, _, _, rs, uss, rfl, fun _ => h1, h3⟩
  · refine (build_err base l A n c w.heap.size w h (Nat.le_refl _) (by omega) (by rw [hE]; exact he)).mono ?_
    rintro e w' ⟨rfl, hb⟩
    exact ⟨none, 0, 0, [], [], by rw [hE], fun h => absurd h he, hb⟩
theorem walk_TopTiers (v : Value) (l : List Rv) (v1 : Value) (p : Int × Int × List Int) (w : World) (h : IsRevs w v l) (hp : IsPolicy w v1 p) :
    Calls Try.prog 10 #[v, v1] w fun e w' => e = .returned (.bool true) ∧ Below w.heap.size w w' := by
  obtain ⟨A, n, c, rfl, hrd⟩ := h
  obtain ⟨last, every, pl⟩ := p
  obtain ⟨A1, n1, c1, rfl, hrp⟩ := hp
  simp only at hrp
  unfold pol
  obtain ⟨B, hB⟩ : ∃ B, w.heap.size = B := ⟨_, rfl⟩
  have HBw := Lib.hid hB
  have HB : Hid (B ≤ w.heap.size) := Lib.hid (by omega)
  have HW : Hid (Below B w w) := Lib.hid (Below.refl _ _)
  have hnl := hrd.1
  have hn9 : (n : Int) ≤ 9223372036854775807 := by have := hrd.le; omega
  have HN := Lib.hid hnl
  have HL := Lib.hid hrd
  have HP := Lib.hid hrp
  obtain ⟨E, hE⟩ : ∃ E, txE ⟨#[]⟩ l = E := ⟨_, rfl⟩
  have HE := Lib.hid hE
  have kp := Blk.new w 78 #[.int .i64 last, .int .i64 every, .slice A1 n1 c1]
  have hal := (Below.refl w.heap.size w).alloc (Nat.le_refl _) (.cells #[.int .i64 last, .int .i64 every, .slice A1 n1 c1] 78)
  obtain ⟨g, hg⟩ : ∃ g, w.heap.size = g := ⟨_, rfl⟩
  have Hg0 := Lib.hid hg
  clear hB hnl hrd hrp hE hg
  go_enter Try.func10, Try.ntmps10
  go_upto_region 1 with (fail)
  obtain ⟨u1, hu1⟩ : ∃ u1, w.alloc (.cells #[.int .i64 last, .int .i64 every, .slice A1 n1 c1] 78) = u1 := ⟨_, rfl⟩
  rw [hu1] at kp hal ⊢
  rw [Hg0.out] at kp ⊢
  have HK := Lib.hid kp
  clear kp hu1
  have HL_ := Lib.hid (RdR.step HL.out hal)
  clear HL
  have HL := HL_
  clear HL_
  have HP_ := Lib.hid (RdI.step HP.out hal)
  clear HP
  have HP := HP_
  clear HP_
  have HW_ := Lib.hid (HW.out.trans (hal.mono HB.out))
  clear HW
  have HW := HW_
  clear HW_
  have HB_ : Hid (B ≤ u1.heap.size) := Lib.hid (Nat.le_trans HB.out hal.size)
  clear HB
  have HB := HB_
  clear HB_ hal
  have hc_ := bld_or ⟨#[]⟩ (by decide) l A n c u1 HL.out E HE.out
  have Hc_ := Lib.hid hc_
  clear hc_
  go_wp2_with fail
  refine Hc_.out.mono ?_
  rintro e w1 ⟨At, mt, ct, rs, uss, rfl, hT, hb1⟩
  clear Hc_
  have HL_ := Lib.hid (RdR.step HL.out hb1)
  clear HL
  have HL := HL_
  clear HL_
  have HP_ := Lib.hid (RdI.step HP.out hb1)
  clear HP
  have HP := HP_
  clear HP_
  have HK_ := Lib.hid (HK.out.below hb1 HK.out.lt)
  clear HK
  have HK := HK_
  clear HK_
  have HW_ := Lib.hid (HW.out.trans (hb1.mono HB.out))
  clear HW
  have HW := HW_
  clear HW_
  have HB_ : Hid (B ≤ w1.heap.size) := Lib.hid (Nat.le_trans HB.out hb1.size)
  clear HB
  have HB := HB_
  clear HB_ hb1
  have HT := Lib.hid hT
  clear hT
  have k0 := HK.out.cell 0
  have k1 := HK.out.cell 1
  have k2 := HK.out.cell 2
  have lk := HK.out.lt
  have hc_ := keepof_or last every pl n hn9 A1 n1 c1 w1 HP.out
  unfold pol at hc_
  have Hc_ := Lib.hid hc_
  clear hc_
  go_wp2_with fail
  refine Hc_.out.mono ?_
  rintro e w2 ⟨Ak, nk, ck, Ek, rfl, hK, hb2⟩
  clear Hc_
  have HL_ := Lib.hid (RdR.step HL.out hb2)
  clear HL
  have HL := HL_
  clear HL_
  have HP_ := Lib.hid (RdI.step HP.out hb2)
  clear HP
  have HP := HP_
  clear HP_
  have HK_ := Lib.hid (HK.out.below hb2 HK.out.lt)
  clear HK
  have HK := HK_
  clear HK_
  have HT_ := Lib.hid (fun he => (HT.out he).step hb2)
  clear HT
  have HT := HT_
  clear HT_
  have HW_ := Lib.hid (HW.out.trans (hb2.mono HB.out))
  clear HW
  have HW := HW_
  clear HW_
  have HB_ : Hid (B ≤ w2.heap.size) := Lib.hid (Nat.le_trans HB.out hb2.size)
  clear HB
  have HB := HB_
  clear HB_ hb2
  clear k0 k1 k2 lk
  have HA := Lib.hid hK
  clear hK
  clear HK HP
  have hc_ := begun_any w2
  have Hc_ := Lib.hid hc_
  clear hc_
  go_wp2_with fail
  refine Hc_.out.mono ?_
  rintro e w3 ⟨rfl, hb3⟩
  clear Hc_
  have HL_ := Lib.hid (RdR.step HL.out hb3)
  clear HL
  have HL := HL_
  clear HL_
  have HT_ := Lib.hid (fun he => (HT.out he).step hb3)
  clear HT
  have HT := HT_
  clear HT_
  have HA_ := Lib.hid (fun he => RdI.step (HA.out he) hb3)
  clear HA
  have HA := HA_
  clear HA_
  have HW_ := Lib.hid (HW.out.trans (hb3.mono HB.out))
  clear HW
  have HW := HW_
  clear HW_
  have HB_ : Hid (B ≤ w3.heap.size) := Lib.hid (Nat.le_trans HB.out hb3.size)
  clear HB
  have HB := HB_
  clear HB_ hb3
  by_cases hgd : E = 0 ∧ Ek = 0
  case neg =>
    have hbd : (E != 0) = true ∨ ((E != 0) = false ∧ (Ek != 0) = true) := by
      by_cases h1 : E = 0
      · by_cases h2 : Ek = 0
        · exact absurd ⟨h1, h2⟩ hgd
        · exact .inr ⟨by simp [h1], by simpa using h2⟩
      · exact .inl (by simpa using h1)
    rcases hbd with hb1 | ⟨hb1, hb2⟩
    · skip
      have hc_ := begun_any w3
      have Hc_ := Lib.hid hc_
      clear hc_
      go_wp2_with fail
      refine Hc_.out.mono ?_
      rintro e w4 ⟨rfl, hb4⟩
      clear Hc_
      have HW_ := Lib.hid (HW.out.trans (hb4.mono HB.out))
      clear HW
      have HW := HW_
      clear HW_
      have HB_ : Hid (B ≤ w4.heap.size) := Lib.hid (Nat.le_trans HB.out hb4.size)
      clear HB
      have HB := HB_
      clear HB_ hb4
      go_wp2_with fail
      go_ret
      exact ⟨rfl, HBw.out ▸ HW.out⟩
    · skip
      have hc_ := begun_any w3
      have Hc_ := Lib.hid hc_
      clear hc_
      go_wp2_with fail
      refine Hc_.out.mono ?_
      rintro e w4 ⟨rfl, hb4⟩
      clear Hc_
      have HW_ := Lib.hid (HW.out.trans (hb4.mono HB.out))
      clear HW
      have HW := HW_
      clear HW_
      have HB_ : Hid (B ≤ w4.heap.size) := Lib.hid (Nat.le_trans HB.out hb4.size)
      clear HB
      have HB := HB_
      clear HB_ hb4
      go_wp2_with fail
      go_ret
      exact ⟨rfl, HBw.out ▸ HW.out⟩
  obtain ⟨rfl, rfl⟩ := hgd
  have hT := HT.out rfl
  have hA := HA.out rfl
  clear HT HA
  have hn64 : n ≤ 64 := by have := (txE_parts HE.out).2.1; have := HN.out; omega
  obtain ⟨K, hK⟩ : ∃ K, kL last every pl n (n + 1) = K := ⟨_, rfl⟩
  have hKm : ∀ y ∈ K, ∃ r : Nat, y = (r : Int) ∧ r ≤ n := by
    rw [← hK]
    intro y hy
    obtain ⟨r, e, hr⟩ := kL_mem hy
    exact ⟨r, e, by omega⟩
  rw [hK] at hA
  have hnk := hA.1
  have hk9 : (nk : Int) ≤ 9223372036854775807 := by have := hA.le; omega
  have HKm := Lib.hid hKm
  have HNk := Lib.hid hnk
  have HT := Lib.hid hT
  have HA := Lib.hid hA
  clear hT hA hK hKm hnk
  obtain ⟨Bt, hBt⟩ : ∃ Bt, OwnTier w3 Bt (.slice At mt ct) rs uss (tiersL l) := ⟨_, HT.out⟩
  clear HT
  have HT := Lib.hid hBt
  clear hBt
  go_upto_region 6 with (fail)
  go_loopw [10, 12, 13, 14, 15, 16, 17, 18, 19, 20, 21, 22, 48] (fun x10 x12 x13 x14 x15 x16 x17 x18 x19 x20 x21 x22 iv wr => ∃ (a : Nat), a ≤ nk ∧ iv = .int .i64 a ∧ Hid (OwnTier wr Bt (.slice At mt ct) rs uss (tiersL l)) ∧ Hid (RdR wr wr.heap.size A n c l) ∧ Hid (RdI wr wr.heap.size Ak nk ck K) ∧ Hid (Below B w wr) ∧ Hid (B ≤ wr.heap.size)) (fun _ _ _ _ _ _ _ _ _ _ _ _ iv _ => nk - (intOf iv).toNat)
  case atStart => exact ⟨0, by omega, rfl, HT, HL, HA, HW, HB⟩
  case round =>
    clear HT HL HA HW HB
    obtain ⟨a, ha, rfl, HT, HL, HA, HW, HB⟩ := hrel
    by_cases hlt : a < nk
    · have hak : a < K.length := by have := HNk.out; omega
      obtain ⟨ba, oa, rfl, hbl, d0⟩ := HA.out.at_ a hlt
      obtain ⟨x, hx, hxn⟩ := HKm.out K[a] (List.getElem_mem hak)
      rw [hx] at d0
      have ha0 : (0 : Int) ≤ (a : Int) := by omega
      have han : (a : Int) < (nk : Int) := by omega
      have hxI : (x : Int) ≤ 64 := by omega
      have hx0 : (0 : Int) ≤ (x : Int) := by omega
      clear hx
      go_upto_region 9 with (fail)
      clear d0 hbl
      obtain ⟨W5, hW5⟩ : ∃ W5, W5 = wr := ⟨_, rfl⟩
      clear hW5
      go_loopw [12, 13, 14, 15, 16, 17, 18, 19, 20, 21, 22, 54] (fun x12 x13 x14 x15 x16 x17 x18 x19 x20 x21 x22 iv wr => ∃ (b : Nat), b ≤ nk ∧ iv = .int .i64 b ∧ Hid (OwnTier wr Bt (.slice At mt ct) rs uss (tiersL l)) ∧ Hid (RdR wr wr.heap.size A n c l) ∧ Hid (RdI wr wr.heap.size (some ⟨ba, oa, none⟩) nk ck K) ∧ Hid (Below B w wr) ∧ Hid (B ≤ wr.heap.size)) (fun _ _ _ _ _ _ _ _ _ _ _ iv _ => nk - (intOf iv).toNat)
      case atStart => exact ⟨0, by omega, rfl, HT, HL, HA, HW, HB⟩
      case round =>
        clear HT HL HA HW HB
        obtain ⟨b, hb, rfl, HT, HL, HA, HW, HB⟩ := hrel
        by_cases hltb : b < nk
        · have hbk : b < K.length := by have := HNk.out; omega
          obtain ⟨ba', oa', e1, hbl, d0⟩ := HA.out.at_ b hltb
          injection e1 with e1
          injection e1 with e1 e2
          subst e1 e2
          obtain ⟨y, hy, hyn⟩ := HKm.out K[b] (List.getElem_mem hbk)
          rw [hy] at d0
          have hb0 : (0 : Int) ≤ (b : Int) := by omega
          have hbn : (b : Int) < (nk : Int) := by omega
          have hyI : (y : Int) ≤ 64 := by omega
          have hy0 : (0 : Int) ≤ (y : Int) := by omega
          clear hy
          by_cases hxy : y ≤ x
          · have hd : decide ((y : Int) ≤ (x : Int)) = true := decide_eq_true (by omega)
            go_wp2_with fail
            go_roundw
            case rel => exact ⟨b + 1, by omega, by go_num, HT, HL, HA, HW, HB⟩
            case measure => simp [intOf]; omega
          · have hd : decide ((y : Int) ≤ (x : Int)) = false := decide_eq_false (by omega)
            have hc_ := tbetween_good ⟨#[]⟩ l HE.out At mt ct Bt rs uss x y wr HT.out (by omega) (by have := HN.out; omega)
            have Hc_ := Lib.hid hc_
            clear hc_
            go_wp2_with fail
            refine Hc_.out.mono ?_
            rintro e w4 ⟨Ad, nd, cd, rfl, hd_, hb4⟩
            clear Hc_
            have HT_ := Lib.hid (HT.out.step hb4)
            clear HT
            have HT := HT_
            clear HT_
            have HL_ := Lib.hid (RdR.step HL.out hb4)
            clear HL
            have HL := HL_
            clear HL_
            have HA_ := Lib.hid (RdI.step HA.out hb4)
            clear HA
            have HA := HA_
            clear HA_
            have HW_ := Lib.hid (HW.out.trans (hb4.mono HB.out))
            clear HW
            have HW := HW_
            clear HW_
            have HB_ : Hid (B ≤ w4.heap.size) := Lib.hid (Nat.le_trans HB.out hb4.size)
            clear HB
            have HB := HB_
            clear HB_ hb4
            clear d0 hbl
            have HD := Lib.hid hd_
            clear hd_
            have hc_ := cover_good x y w4 (by omega) (by omega)
            have Hc_ := Lib.hid hc_
            clear hc_
            go_wp2_with fail
            refine Hc_.out.mono ?_
            rintro e w5 ⟨vc, rfl, hcv, hb5⟩
            clear Hc_
            have HT_ := Lib.hid (HT.out.step hb5)
            clear HT
            have HT := HT_
            clear HT_
            have HL_ := Lib.hid (RdR.step HL.out hb5)
            clear HL
            have HL := HL_
            clear HL_
            have HA_ := Lib.hid (RdI.step HA.out hb5)
            clear HA
            have HA := HA_
            clear HA_
            have HD_ := Lib.hid (RdP.step HD.out hb5)
            clear HD
            have HD := HD_
            clear HD_
            have HW_ := Lib.hid (HW.out.trans (hb5.mono HB.out))
            clear HW
            have HW := HW_
            clear HW_
            have HB_ : Hid (B ≤ w5.heap.size) := Lib.hid (Nat.le_trans HB.out hb5.size)
            clear HB
            have HB := HB_
            clear HB_ hb5
            have hc12 := cover_12 ⟨y, by omega⟩ ⟨x, by omega⟩ (by show x ≤ y; omega)
            simp only at hc12
            obtain ⟨Ac, cc, rfl, hcr⟩ := Rd.own hcv
            obtain ⟨nc, hnc⟩ : ∃ nc, (coverL 65 x y).length = nc := ⟨_, rfl⟩
            rw [hnc] at hc12 ⊢
            have hd12 : decide ((12 : Int) < (nc : Int)) = false := decide_eq_false (by omega)
            clear hcv hcr hnc hc12
            have hc_ := rtext_good ⟨#[]⟩ l A n c _ x w5 HL.out (Nat.le_refl _) HE.out (by have := HN.out; omega)
            have Hc_ := Lib.hid hc_
            clear hc_
            go_wp2_with fail
            refine Hc_.out.mono ?_
            rintro e w6 ⟨rfl, hb6⟩
            clear Hc_
            have HT_ := Lib.hid (HT.out.step hb6)
            clear HT
            have HT := HT_
            clear HT_
            have HL_ := Lib.hid (RdR.step HL.out hb6)
            clear HL
            have HL := HL_
            clear HL_
            have HA_ := Lib.hid (RdI.step HA.out hb6)
            clear HA
            have HA := HA_
            clear HA_
            have HD_ := Lib.hid (RdP.step HD.out hb6)
            clear HD
            have HD := HD_
            clear HD_
            have HW_ := Lib.hid (HW.out.trans (hb6.mono HB.out))
            clear HW
            have HW := HW_
            clear HW_
            have HB_ : Hid (B ≤ w6.heap.size) := Lib.hid (Nat.le_trans HB.out hb6.size)
            clear HB
            have HB := HB_
            clear HB_ hb6
            have hc_ := rtext_good ⟨#[]⟩ l A n c _ y w6 HL.out (Nat.le_refl _) HE.out (by have := HN.out; omega)
            have Hc_ := Lib.hid hc_
            clear hc_
            go_wp2_with fail
            refine Hc_.out.mono ?_
            rintro e w7 ⟨rfl, hb7⟩
            clear Hc_
            have HT_ := Lib.hid (HT.out.step hb7)
            clear HT
            have HT := HT_
            clear HT_
            have HL_ := Lib.hid (RdR.step HL.out hb7)
            clear HL
            have HL := HL_
            clear HL_
            have HA_ := Lib.hid (RdI.step HA.out hb7)
            clear HA
            have HA := HA_
            clear HA_
            have HD_ := Lib.hid (RdP.step HD.out hb7)
            clear HD
            have HD := HD_
            clear HD_
            have HW_ := Lib.hid (HW.out.trans (hb7.mono HB.out))
            clear HW
            have HW := HW_
            clear HW_
            have HB_ : Hid (B ≤ w7.heap.size) := Lib.hid (Nat.le_trans HB.out hb7.size)
            clear HB
            have HB := HB_
            clear HB_ hb7
            have hc_ := do_any (bk ⟨#[]⟩ l x y) Ad nd cd _ (txt ⟨#[]⟩ l x) w7 HD.out (Nat.le_refl _) (by have := txt_size l ⟨#[]⟩ x (by decide); omega)
            have hbt : doE (bk ⟨#[]⟩ l x y) (txt ⟨#[]⟩ l x) = 0 ∧ doS (bk ⟨#[]⟩ l x y) (txt ⟨#[]⟩ l x) = txt ⟨#[]⟩ l y := btw_of HE.out x y (by omega) (by have := HN.out; omega)
            rw [hbt.1, hbt.2] at hc_
            clear hbt
            have Hc_ := Lib.hid hc_
            clear hc_
            go_wp2_with fail
            refine Hc_.out.mono ?_
            rintro e w8 ⟨rfl, hb8⟩
            clear Hc_
            have HT_ := Lib.hid (HT.out.step hb8)
            clear HT
            have HT := HT_
            clear HT_
            have HL_ := Lib.hid (RdR.step HL.out hb8)
            clear HL
            have HL := HL_
            clear HL_
            have HA_ := Lib.hid (RdI.step HA.out hb8)
            clear HA
            have HA := HA_
            clear HA_
            have HD_ := Lib.hid (RdP.step HD.out hb8)
            clear HD
            have HD := HD_
            clear HD_
            have HW_ := Lib.hid (HW.out.trans (hb8.mono HB.out))
            clear HW
            have HW := HW_
            clear HW_
            have HB_ : Hid (B ≤ w8.heap.size) := Lib.hid (Nat.le_trans HB.out hb8.size)
            clear HB
            have HB := HB_
            clear HB_ hb8
            go_wp2_with fail
            go_roundw
            case rel => exact ⟨b + 1, by omega, by go_num, HT, HL, HA, HW, HB⟩
            case measure => simp [intOf]; omega
        · obtain rfl : b = nk := by omega
          go_wp2_with fail
          go_roundw
          case rel => exact ⟨a + 1, by omega, by go_num, HT, HL, HA, HW, HB⟩
          case measure => simp [intOf]; omega
    · obtain rfl : a = nk := by omega
      go_wp2_with fail
      go_ret
      exact ⟨rfl, HBw.out ▸ HW.out⟩
end Go.Proofs.Ytcdielgpmnhmjaa
