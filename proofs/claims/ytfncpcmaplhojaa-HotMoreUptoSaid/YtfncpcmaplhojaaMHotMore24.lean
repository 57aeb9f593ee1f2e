/- walk of scrivkeep.HotMore. -/
import Derived.Test.YtfncpcmaplhojaaMHotMore21
import Derived.Test.YtfncpcmaplhojaaMHotMore23
import Derived.Test.YtfncpcmaplhojaaMHotMore16
namespace Go.Proofs.Ytfncpcmaplhojaa
open Go.ChangeShapes Go.WideShapes Go.RowKit
set_option linter.unusedVariables false
set_option linter.unusedSimpArgs false
set_option maxRecDepth 100000
set_option maxHeartbeats 4000000

def r1 : Rv := (1, 1, [(2, 0, ⟨#[97]⟩)])
theorem r1_one : oneE r1 = 0 := by decide
theorem r1_ok : okRs (L0 1 0 tz ⟨#[]⟩) ⟨#[]⟩ [r1] := ⟨r1_one, by decide, trivial⟩
theorem hot_cases' (fs : List Fm) : hotE fs = 7 ∨ hotE fs = 3 ∨ hotE fs = 0 := by
  cases fs with
  | nil => exact .inl rfl
  | cons f fs =>
    simp only [hotE]
    split
    · exact .inr (.inl rfl)
    · exact .inr (.inr rfl)
theorem hot_first : hotE (hf 1 0 tz ⟨#[]⟩ :: [frR r1]) = 0 ∧ hotL (hf 1 0 tz ⟨#[]⟩ :: [frR r1]) = addLs (L0 1 0 tz ⟨#[]⟩) [r1] := by
  obtain ⟨h1, h2⟩ := hot_head 1 0 tz ⟨#[]⟩ [frR r1] rfl (by decide) (by decide) tz_le (by decide)
  refine ⟨h1, ?_⟩
  rw [h2]
  exact readF_revs [r1] _ _ [] r1_ok
theorem walk_HotMore (s : ByteArray) (hs : s.size ≤ 1048576) (v : Value) (r : Rv) (w : World) (h : IsRev1 w v r) :
    Calls Try.prog 11 #[.string s, v] w fun e w' => e = .returned (.bool true) ∧ Below w.heap.size w w' := by
  obtain ⟨A, n, c, rfl, hrd⟩ := h
  obtain ⟨ra, rb, d⟩ := r
  simp only at hrd ⊢
  obtain ⟨fs, rest, hsf, hok, hr⟩ := scan_ex s.data.toList
  have hfl : 7 * fs.length ≤ s.size := by
    have h1 := flat_frames fs
    have h2 : s.data.toList.length = s.size := rfl
    rw [hsf, List.length_append] at h2
    omega
  -- the first reading
  have hh1 : ∀ w, Calls Try.prog 40 #[.int .i64 1, .int .i64 0, .string ⟨#[]⟩, .agg (tc (tbN tz)).toArray] w fun e w' => e = .returned (.tuple #[.string (hdB 1 0 tz ⟨#[]⟩), .int .i64 0]) ∧ Below w.heap.size w w' := fun w => hhead_good 1 0 tz ⟨#[]⟩ rfl (by decide) (by decide) tz_le w (by decide)
  have hH1 := hdB_tx 1 0 tz ⟨#[]⟩
  have hz1 : (hdB 1 0 tz ⟨#[]⟩).size ≤ 700 := by
    have h1 : (hdB 1 0 tz ⟨#[]⟩).data.toList.length = (hdB 1 0 tz ⟨#[]⟩).size := rfl
    rw [hH1, txF_len] at h1
    have h2 : (hf 1 0 tz ⟨#[]⟩).2.size ≤ 90 + (⟨#[]⟩ : ByteArray).size := by
      show (headB ((1, 0) :: tz) ⟨#[]⟩).toArray.size ≤ _
      rw [List.size_toArray]
      exact headB_len 1 0 tz ⟨#[]⟩ rfl (by decide) (by decide) tz_le
    have h3 : (⟨#[]⟩ : ByteArray).size = 0 := rfl
    omega
  have hF1 := frB_tx r1
  have hfz : (frB r1).size ≤ 4007 := by
    have h1 : (frB r1).data.toList.length = (frB r1).size := rfl
    rw [hF1, txF_len] at h1
    have := (frR_ok r1_one).2.2
    omega
  have hhok := hf_ok 1 0 tz ⟨#[]⟩ rfl (by decide) (by decide) tz_le (by decide)
  obtain ⟨HB, hHB⟩ : ∃ HB, hdB 1 0 tz ⟨#[]⟩ = HB := ⟨_, rfl⟩
  rw [hHB] at hh1 hH1 hz1
  have hrv1 := fun A w (h : RdP w w.heap.size A 1 1 [(2, 0, ⟨#[97]⟩)]) => hrev_good 1 1 [(2, 0, ⟨#[97]⟩)] A 1 1 w h r1_one
  have hFe : frB (1, 1, [(2, 0, ⟨#[97]⟩)]) = frB r1 := rfl
  rw [hFe] at hrv1
  obtain ⟨FB1, hFB1⟩ : ∃ FB1, frB r1 = FB1 := ⟨_, rfl⟩
  rw [hFB1] at hrv1 hF1 hfz
  have hrd1 := fun w => hread_fs (HB ++ FB1) (hf 1 0 tz ⟨#[]⟩ :: [frR r1]) [] (by
    intro p hp
    simp only [List.mem_cons, List.not_mem_nil, or_false] at hp
    rcases hp with rfl | rfl
    · exact hhok
    · exact frR_ok r1_one) (by rw [bs_append, hH1, hF1]; simp [flat]) gf_nil (by simp) (by simp; omega) w
  rw [hot_first.1, hot_first.2] at hrd1
  have h81 : Lg8 (addLs (L0 1 0 tz ⟨#[]⟩) [r1]) := ⟨rfl, rfl⟩
  have hlen1 : (addLs (L0 1 0 tz ⟨#[]⟩) [r1]).revs.length = 1 := rfl
  have hwh1 : (addLs (L0 1 0 tz ⟨#[]⟩) [r1]).whole = false := rfl
  have htb1 : (addLs (L0 1 0 tz ⟨#[]⟩) [r1]).table[1]? = some (1, 1) := rfl
  obtain ⟨X1, hX1⟩ : ∃ X1, addLs (L0 1 0 tz ⟨#[]⟩) [r1] = X1 := ⟨_, rfl⟩
  rw [hX1] at hrd1 h81 hlen1 hwh1 htb1
  -- what is read of s
  have hc2 := fun w => hread_fs s fs rest hok hsf hr (by omega) (by omega) w
  have h8 := hotL8 fs
  have hHg := fun h => hot_Hg (fs := fs) h
  have hcs := hot_cases' fs
  have hgd := fun h => hot_good fs h
  have hmr := fun gs h => hot_more (fs := gs) h
  obtain ⟨L, hL⟩ : ∃ L, hotL fs = L := ⟨_, rfl⟩
  obtain ⟨E, hE⟩ : ∃ E, hotE fs = E := ⟨_, rfl⟩
  rw [hL] at h8
  rw [hE] at hcs
  rw [hL, hE] at hc2
  have Hh1 := Lib.hid hh1
  have Hrv1 := Lib.hid hrv1
  have Hrd1 := Lib.hid hrd1
  have Hc2 := Lib.hid hc2
  have Hsf := Lib.hid hsf
  have Hok := Lib.hid hok
  have Hr := Lib.hid hr
  have HL := Lib.hid hL
  have HE := Lib.hid hE
  have HHg := Lib.hid hHg
  have Hcs := Lib.hid hcs
  have Hgd := Lib.hid hgd
  have hcat1 : (9223372036854775807 < HB.size + FB1.size) = False := by simp; omega
  have hb := (Below.refl w.heap.size w).alloc (Nat.le_refl _) (.cells #[.int .i64 ra, .int .i64 rb, .slice A n c] 29)
  have kr := Blk.new w 29 #[.int .i64 ra, .int .i64 rb, .slice A n c]
  have Hrd := Lib.hid (hrd.stepA (.cells #[.int .i64 ra, .int .i64 rb, .slice A n c] 29))
  have hnc := hrd.2.1.1
  clear hh1 hrv1 hrd1 hc2 hsf hok hr hL hE hHg hcs hgd hmr hH1 hF1 hHB hFB1 hX1 hFe hhok hrd
  go_enter Try.func11, Try.ntmps11
  go_upto_region 1 with (fail)
  obtain ⟨W0, hW0⟩ : ∃ W0, w.alloc (.cells #[.int .i64 ra, .int .i64 rb, .slice A n c] 29) = W0 := ⟨_, rfl⟩
  rw [hW0] at hb kr Hrd ⊢
  clear hW0
  obtain ⟨g, hg⟩ : ∃ g, w.heap.size = g := ⟨_, rfl⟩
  rw [hg] at kr hb ⊢
  have hgW : g ≤ W0.heap.size := by have := kr.lt; omega
  go_wp2_with fail
  refine (Hh1.out W0).mono ?_
  rintro e w1 ⟨rfl, hq⟩
  replace hb := hb.trans (hq.mono hgW)
  replace kr := kr.below hq kr.lt
  replace Hrd := Lib.hid (Hrd.out.step hq)
  clear hq hgW
  have hgW : g ≤ w1.heap.size := by have := kr.lt; omega
  go_wp2_with fail
  refine (first_any ⟨#[97]⟩ (by decide) w1).mono ?_
  rintro e w2 ⟨A1, rfl, hp1, hq⟩
  replace hb := hb.trans (hq.mono hgW)
  replace kr := kr.below hq kr.lt
  replace Hrd := Lib.hid (Hrd.out.step hq)
  clear hq hgW
  have hgW : g ≤ w2.heap.size := by have := kr.lt; omega
  have hcr := Hrv1.out A1 w2 hp1
  have Hcr := Lib.hid hcr
  clear hcr hp1
  go_wp2_with fail
  refine Hcr.out.mono ?_
  rintro e w3 ⟨rfl, hq⟩
  replace hb := hb.trans (hq.mono hgW)
  replace kr := kr.below hq kr.lt
  replace Hrd := Lib.hid (Hrd.out.step hq)
  clear hq hgW Hcr
  have hgW : g ≤ w3.heap.size := by have := kr.lt; omega
  go_wp2_with fail
  refine (Hrd1.out w3).mono ?_
  rintro e w4 ⟨sl1, ss1, rfl, hv1, hq⟩
  replace hb := hb.trans (hq.mono hgW)
  replace kr := kr.below hq kr.lt
  replace Hrd := Lib.hid (Hrd.out.step hq)
  have hsl1 : sl1.2.1 = 1 := by obtain ⟨A9, c9, e9⟩ := hv1.form; injection e9 with e1 e2 e3; rw [e2, hlen1]
  clear hq hgW hv1 Hrd1 Hrv1 Hh1
  have hgW : g ≤ w4.heap.size := by have := kr.lt; omega
  go_upto_region 4 with (first | (refine wpList_store_blk rfl _ (.tmp 9) (.tmp 29) rfl w4.heap.size (lgc X1 sl1) rfl rfl _ _ (Blk.new w4 _ _) (by rw [lgc_size h81]; exact log_info) (by rw [lgc_size h81]; rfl) lgc_ones ?_))
  have kx := (Blk.new w4 70 #[.int .i64 0, .int .i64 0, .string ⟨#[]⟩, .int .i64 0, .int .i64 0, .int .i64 0, .int .i64 0, .int .i64 0, .int .i64 0, .int .i64 0, .int .i64 0, .int .i64 0, .int .i64 0, .int .i64 0, .int .i64 0, .int .i64 0, .int .i64 0, .int .i64 0, .int .i64 0, .int .i64 0, .int .i64 0, .int .i64 0, .int .i64 0, .int .i64 0, .int .i64 0, .int .i64 0, .int .i64 0, .int .i64 0, .int .i64 0, .int .i64 0, .int .i64 0, .int .i64 0, .int .i64 0, .int .i64 0, .int .i64 0, .slice none 0 0, .bool false, .int .i64 0]).row (lgc X1 sl1)
  have hbv := below_setRow ((Below.refl w4.heap.size w4).alloc (Nat.le_refl _) (.cells #[.int .i64 0, .int .i64 0, .string ⟨#[]⟩, .int .i64 0, .int .i64 0, .int .i64 0, .int .i64 0, .int .i64 0, .int .i64 0, .int .i64 0, .int .i64 0, .int .i64 0, .int .i64 0, .int .i64 0, .int .i64 0, .int .i64 0, .int .i64 0, .int .i64 0, .int .i64 0, .int .i64 0, .int .i64 0, .int .i64 0, .int .i64 0, .int .i64 0, .int .i64 0, .int .i64 0, .int .i64 0, .int .i64 0, .int .i64 0, .int .i64 0, .int .i64 0, .int .i64 0, .int .i64 0, .int .i64 0, .int .i64 0, .slice none 0 0, .bool false, .int .i64 0] 70)) w4.heap.size (lgc X1 sl1) (Nat.le_refl _)
  obtain ⟨W4, hW4⟩ : ∃ W4, (w4.alloc (.cells #[.int .i64 0, .int .i64 0, .string ⟨#[]⟩, .int .i64 0, .int .i64 0, .int .i64 0, .int .i64 0, .int .i64 0, .int .i64 0, .int .i64 0, .int .i64 0, .int .i64 0, .int .i64 0, .int .i64 0, .int .i64 0, .int .i64 0, .int .i64 0, .int .i64 0, .int .i64 0, .int .i64 0, .int .i64 0, .int .i64 0, .int .i64 0, .int .i64 0, .int .i64 0, .int .i64 0, .int .i64 0, .int .i64 0, .int .i64 0, .int .i64 0, .int .i64 0, .int .i64 0, .int .i64 0, .int .i64 0, .int .i64 0, .slice none 0 0, .bool false, .int .i64 0] 70)).setRow w4.heap.size (lgc X1 sl1) = W4 := ⟨_, rfl⟩
  rw [hW4] at kx hbv ⊢
  replace hb := hb.trans (hbv.mono hgW)
  replace kr := kr.below hbv kr.lt
  replace Hrd := Lib.hid (Hrd.out.step hbv)
  clear hW4 hbv
  obtain ⟨x, hx⟩ : ∃ x, w4.heap.size = x := ⟨_, rfl⟩
  rw [hx] at kx ⊢
  clear hx
  have lx := kx.lt
  have a35 := kx.cell 35
  have a36 := kx.cell 36
  have a21 := kx.cell 21
  have a22 := kx.cell 22
  rw [lgc_revs h81, hsl1] at a35
  rw [lgc_whole h81, hwh1] at a36
  have htt := lgc_table (s := sl1) h81 1 (by decide)
  obtain ⟨_, htb1'⟩ := List.getElem?_eq_some_iff.1 htb1
  simp only [htb1'] at htt
  rw [show (21 : Nat) = 19 + 1 * 2 from rfl, htt.1] at a21
  rw [show (22 : Nat) = 19 + 1 * 2 + 1 from rfl, htt.2] at a22
  clear kx htt htb1 htb1'
  have hgW : g ≤ W4.heap.size := by have := kr.lt; omega
  go_wp2_with fail
  refine (Hc2.out W4).mono ?_
  rintro e v2 ⟨sl, ss, rfl, hv, hq⟩
  replace hb := hb.trans (hq.mono hgW)
  replace kr := kr.below hq kr.lt
  replace Hrd := Lib.hid (Hrd.out.step hq)
  have hsl : sl.2.1 = L.revs.length := by obtain ⟨A9, c9, e9⟩ := hv.form; injection e9
  have Hv := Lib.hid (OwnV.rd hv)
  clear hv hq hgW a35 a36 a21 a22 lx Hc2
  have hgW : g ≤ v2.heap.size := by have := kr.lt; omega
  go_upto_region 7 with (first | (refine wpList_store_blk rfl _ (.tmp 11) (.tmp 61) rfl v2.heap.size (lgc L sl) rfl rfl _ _ (Blk.new v2 _ _) (by rw [lgc_size h8]; exact log_info) (by rw [lgc_size h8]; rfl) lgc_ones ?_))
  have ka := (Blk.new v2 70 #[.int .i64 0, .int .i64 0, .string ⟨#[]⟩, .int .i64 0, .int .i64 0, .int .i64 0, .int .i64 0, .int .i64 0, .int .i64 0, .int .i64 0, .int .i64 0, .int .i64 0, .int .i64 0, .int .i64 0, .int .i64 0, .int .i64 0, .int .i64 0, .int .i64 0, .int .i64 0, .int .i64 0, .int .i64 0, .int .i64 0, .int .i64 0, .int .i64 0, .int .i64 0, .int .i64 0, .int .i64 0, .int .i64 0, .int .i64 0, .int .i64 0, .int .i64 0, .int .i64 0, .int .i64 0, .int .i64 0, .int .i64 0, .slice none 0 0, .bool false, .int .i64 0]).row (lgc L sl)
  have hbv := below_setRow ((Below.refl v2.heap.size v2).alloc (Nat.le_refl _) (.cells #[.int .i64 0, .int .i64 0, .string ⟨#[]⟩, .int .i64 0, .int .i64 0, .int .i64 0, .int .i64 0, .int .i64 0, .int .i64 0, .int .i64 0, .int .i64 0, .int .i64 0, .int .i64 0, .int .i64 0, .int .i64 0, .int .i64 0, .int .i64 0, .int .i64 0, .int .i64 0, .int .i64 0, .int .i64 0, .int .i64 0, .int .i64 0, .int .i64 0, .int .i64 0, .int .i64 0, .int .i64 0, .int .i64 0, .int .i64 0, .int .i64 0, .int .i64 0, .int .i64 0, .int .i64 0, .int .i64 0, .int .i64 0, .slice none 0 0, .bool false, .int .i64 0] 70)) v2.heap.size (lgc L sl) (Nat.le_refl _)
  obtain ⟨W2, hW2⟩ : ∃ W2, (v2.alloc (.cells #[.int .i64 0, .int .i64 0, .string ⟨#[]⟩, .int .i64 0, .int .i64 0, .int .i64 0, .int .i64 0, .int .i64 0, .int .i64 0, .int .i64 0, .int .i64 0, .int .i64 0, .int .i64 0, .int .i64 0, .int .i64 0, .int .i64 0, .int .i64 0, .int .i64 0, .int .i64 0, .int .i64 0, .int .i64 0, .int .i64 0, .int .i64 0, .int .i64 0, .int .i64 0, .int .i64 0, .int .i64 0, .int .i64 0, .int .i64 0, .int .i64 0, .int .i64 0, .int .i64 0, .int .i64 0, .int .i64 0, .int .i64 0, .slice none 0 0, .bool false, .int .i64 0] 70)).setRow v2.heap.size (lgc L sl) = W2 := ⟨_, rfl⟩
  rw [hW2] at ka hbv ⊢
  replace hb := hb.trans (hbv.mono hgW)
  replace kr := kr.below hbv kr.lt
  replace Hrd := Lib.hid (Hrd.out.step hbv)
  replace Hv := Lib.hid (Hv.out.step hbv)
  clear hW2 hbv
  obtain ⟨y, hy⟩ : ∃ y, v2.heap.size = y := ⟨_, rfl⟩
  rw [hy] at ka ⊢
  clear hy
  have la := ka.lt
  have hgW : g ≤ W2.heap.size := by have := kr.lt; omega
  by_cases hE0 : E = 0
  · subst hE0
    obtain ⟨j, hj, g1, g2, g3, g4⟩ := Hgd.out HE.out
    obtain ⟨hHd, htx, hnow⟩ := HHg.out HE.out
    rw [HL.out] at g2 g3 g4 hHd htx hnow
    obtain ⟨T, hT⟩ : ∃ T, hotT fs = T := ⟨_, rfl⟩
    rw [hT] at hnow hHd
    obtain ⟨m, hm⟩ : ∃ m, (flat (fs.take j)).length = m := ⟨_, rfl⟩
    rw [hm] at g3
    have a1 := ka.cell 1
    rw [lgc_base] at a1
    obtain ⟨Ba, hBa⟩ : ∃ Ba, L.base = Ba := ⟨_, rfl⟩
    rw [hBa] at a1
    have hB0 : 0 ≤ Ba := by rw [← hBa]; exact hHd.base0
    have hB1 : Ba ≤ 2147483647 := by rw [← hBa]; exact hHd.base1
    have c37 := ka.cell 37
    rw [lgc_good h8, g3] at c37
    have hm7 : (7 : Int) ≤ (m : Int) := by omega
    by_cases hbig : 2147483576 < Ba
    · have hdm : decide (0 < m) = true := by simp; omega
      go_wp2_with fail
      go_ret
      exact ⟨rfl, hg ▸ hb⟩
    · have hbig' : ¬ (2147483576 < Ba) := hbig
      have a2 := ka.cell 2
      have a35 := ka.cell 35
      rw [lgc_text] at a2
      rw [lgc_revs h8] at a35
      obtain ⟨As, N, cs⟩ := sl
      simp only at hsl a35
      have hv2 := Hv.out
      simp only at hv2
      have hrt := rtext_good L.text L.revs As N cs W2.heap.size N W2 hv2 (Nat.le_refl _) htx (by omega)
      rw [hsl, hnow, ← hsl] at hrt
      have Hrt := Lib.hid hrt
      have HBa := Lib.hid hBa
      have Hhd := Lib.hid hHd
      have HG := Lib.hid g3
      have Hj := Lib.hid (And.intro hj (And.intro g1 (And.intro g2 hm)))
      have HT := Lib.hid hT
      have hlen64 := hHd.len
      rw [← hsl] at hlen64
      have Hsl := Lib.hid hsl
      clear hrt hv2 hBa hHd g1 g2 g3 g4 hj hm htx hnow hT hsl
      go_wp2_with fail
      refine Hrt.out.mono ?_
      rintro e v3 ⟨rfl, hq⟩
      replace hb := hb.trans (hq.mono hgW)
      replace kr := kr.below hq kr.lt
      replace ka := ka.below hq la
      replace Hrd := Lib.hid (Hrd.out.step hq)
      replace Hv := Lib.hid (Hv.out.step hq)
      clear hq hgW a1 c37 a2 a35 Hrt
      have la := ka.lt
      have lr := kr.lt
      have hgW : g ≤ v3.heap.size := by omega
      have c0 := kr.cell 0
      have c1 := kr.cell 1
      have c2 := kr.cell 2
      obtain ⟨E1, hE1⟩ : ∃ E1, oneE (ra, rb, d) = E1 := ⟨_, rfl⟩
      obtain ⟨En, hEn⟩ : ∃ En, nextE L T.size (ra, rb, d) = En := ⟨_, rfl⟩
      have HEn := Lib.hid hEn
      have hT5 := Hhd.out.txt
      have hsl' : (As, N, cs).2.1 = L.revs.length := Hsl.out
      have nx : ∀ w', RdP w' w'.heap.size A n c d → Calls Try.prog 44 #[.agg (lgc L (As, N, cs)), .int .i64 T.size, .agg #[.int .i64 ra, .int .i64 rb, .slice A n c]] w' fun e w'' => e = .returned (.int .i64 En) ∧ Below w'.heap.size w' w'' := by
        intro w' hw'
        have := next_any L (As, N, cs) h8 hsl' Hhd.out.base0 Hhd.out.base1 (by have := Hhd.out.len; omega) T.size (ra, rb, d) A n c w' hw'
        rw [hEn] at this
        exact this
      have Nx := Lib.hid nx
      clear nx hEn hsl'
      by_cases hone : E1 = 0
      · subst hone
        have hcr := hrev_good ra rb d A n c v3 Hrd.out hE1
        have hFB := frB_tx (ra, rb, d)
        obtain ⟨FB, hFBe⟩ : ∃ FB, frB (ra, rb, d) = FB := ⟨_, rfl⟩
        rw [hFBe] at hcr hFB
        have hFs : FB.size = (bodyR (ra, rb, d)).length + 7 := by
          have h1 : FB.data.toList.length = FB.size := rfl
          rw [hFB, txF_len] at h1
          have h2 : (frR (ra, rb, d)).2.size = (bodyR (ra, rb, d)).length := by show (bodyR (ra, rb, d)).toArray.size = _; rw [List.size_toArray]
          omega
        have hFl := body_len hE1
        have HFB := Lib.hid hFB
        have Hcr := Lib.hid hcr
        have HE1 := Lib.hid hE1
        clear hcr hFB hFBe hE1
        go_wp2_with fail
        refine Hcr.out.mono ?_
        rintro e v4 ⟨rfl, hq⟩
        replace hb := hb.trans (hq.mono hgW)
        replace kr := kr.below hq lr
        replace ka := ka.below hq la
        replace Hrd := Lib.hid (Hrd.out.step hq)
        replace Hv := Lib.hid (Hv.out.step hq)
        clear hq hgW Hcr c0 c1 c2
        have la := ka.lt
        have lr := kr.lt
        have hgW : g ≤ v4.heap.size := by omega
        have c0 := kr.cell 0
        have c1 := kr.cell 1
        have c2 := kr.cell 2
        have hnn := Nx.out v4 Hrd.out
        have Hnn := Lib.hid hnn
        clear hnn
        go_wp2_with (first | (refine wpList_load_blk rfl _ (.tmp 11) rfl y rfl _ (log_row ka h8) ?_))
        refine Hnn.out.mono ?_
        rintro e v5 ⟨rfl, hq⟩
        replace hb := hb.trans (hq.mono hgW)
        replace kr := kr.below hq lr
        replace ka := ka.below hq la
        replace Hrd := Lib.hid (Hrd.out.step hq)
        replace Hv := Lib.hid (Hv.out.step hq)
        clear hq hgW Hnn c0 c1 c2
        have la := ka.lt
        have lr := kr.lt
        have hgW : g ≤ v5.heap.size := by omega
        by_cases hEn0 : En = 0
        · subst hEn0
          obtain ⟨p1, p2, p3, p4, p5⟩ := one_parts HE1.out
          simp only at p1 p2 p3 p4 p5
          obtain ⟨x', rfl⟩ := Int.eq_ofNat_of_zero_le p1
          have hx8 : x' < 8 := by omega
          obtain ⟨hj, g1, g2, hm⟩ := Hj.out
          have hgg : (hotL (fs.take j)).good = ((flat (fs.take j)).length : Nat) := by rw [g2, HG.out, hm]
          have hTj : (hotT (fs.take j)).size = T.size := by
            have e1 := (hot_Hg g1).now
            have e2 := (hot_Hg HE.out).now
            rw [g2] at e1
            rw [HL.out] at e2
            rw [HT.out] at e2
            rw [← e1, ← e2]
          obtain ⟨m1, m2⟩ := hot_more g1 hgg ((x' : Int), rb, d) HE1.out (by rw [g2, hTj]; exact HEn.out)
          rw [g2, HG.out] at m2
          have hms : m ≤ s.size := by
            have h2 : s.data.toList.length = s.size := rfl
            have hpre : flat fs = flat (fs.take j) ++ flat (fs.drop j) := by rw [← flat_app, List.take_append_drop]
            rw [Hsf.out, hpre, List.length_append, List.length_append] at h2
            omega
          have hcut : (s.extract 0 m ++ FB).data.toList = flat (fs.take j ++ [frR ((x' : Int), rb, d)]) ++ [] := by
            have hpre : flat fs = flat (fs.take j) ++ flat (fs.drop j) := by rw [← flat_app, List.take_append_drop]
            rw [bs_append, bs_extract, Hsf.out, hpre, List.drop_zero, List.append_assoc, List.take_append_of_le_length (by omega), List.take_of_length_le (by omega), HFB.out, flat_app]
            simp [flat]
          have hem : (s.extract 0 m).size = m := by
            have h2 : (s.extract 0 m).data.toList.length = (s.extract 0 m).size := rfl
            have h3 : s.data.toList.length = s.size := rfl
            rw [bs_extract, List.drop_zero, List.length_take] at h2
            omega
          have hszm : (s.extract 0 m ++ FB).size ≤ 140737488351232 := by rw [ByteArray.size_append]; omega
          have hc3 := fun w => hread_fs (s.extract 0 m ++ FB) (fs.take j ++ [frR ((x' : Int), rb, d)]) [] (by
            intro p hp
            rcases List.mem_append.1 hp with hp | hp
            · exact Hok.out p (List.mem_of_mem_take hp)
            · rw [List.mem_singleton] at hp; rw [hp]; exact frR_ok HE1.out) hcut gf_nil (by simp only [List.length_append, List.length_take, List.length_cons, List.length_nil]; omega) hszm w
          rw [m1, m2] at hc3
          have h8M : Lg8 ({ addL L ((x' : Int), rb, d) with good := (m : Int) + (((bodyR ((x' : Int), rb, d)).length + 7 : Nat) : Int) } : Lg) := addL_8 h8 _
          have hMr : ({ addL L ((x' : Int), rb, d) with good := (m : Int) + (((bodyR ((x' : Int), rb, d)).length + 7 : Nat) : Int) } : Lg).revs = L.revs ++ [((x' : Int), rb, d)] := rfl
          have hMg : ({ addL L ((x' : Int), rb, d) with good := (m : Int) + (((bodyR ((x' : Int), rb, d)).length + 7 : Nat) : Int) } : Lg).good = (m : Int) + (FB.size : Int) := by rw [hFs]
          have hMt : ({ addL L ((x' : Int), rb, d) with good := (m : Int) + (((bodyR ((x' : Int), rb, d)).length + 7 : Nat) : Int) } : Lg).table[x']? = some (rb, Ba + ((N : Int) + 1)) := by
            simp only [addL, Int.toNat_natCast]
            rw [List.getElem?_set_self (by rw [h8.2]; exact hx8)]
            rw [HBa.out, ← Hsl.out]
            rfl
          obtain ⟨M, hM⟩ : ∃ M, ({ addL L ((x' : Int), rb, d) with good := (m : Int) + (((bodyR ((x' : Int), rb, d)).length + 7 : Nat) : Int) } : Lg) = M := ⟨_, rfl⟩
          rw [hM] at hc3 h8M hMr hMg hMt
          have Hc3 := Lib.hid hc3
          have hmI : (m : Int) ≤ (s.size : Int) := by omega
          have c37 := ka.cell 37
          rw [lgc_good h8, HG.out] at c37
          have hcatm : (9223372036854775807 < (s.extract 0 m).size + FB.size) = False := by simp; omega
          have HMr := Lib.hid hMr
          have Hem := Lib.hid hem
          clear hc3 hcut hszm hgg hTj m1 m2 g1 g2 hm hj hM hMr hem Hj
          go_wp2_with fail
          refine (Hc3.out v5).mono ?_
          rintro e v6 ⟨slm, ssm, rfl, hvm, hq⟩
          replace hb := hb.trans (hq.mono hgW)
          replace kr := kr.below hq lr
          replace ka := ka.below hq la
          replace Hrd := Lib.hid (Hrd.out.step hq)
          replace Hv := Lib.hid (Hv.out.step hq)
          have hslm : slm.2.1 = N + 1 := by obtain ⟨A9, c9, e9⟩ := hvm.form; injection e9 with e1 e2 e3; rw [e2, HMr.out, List.length_append, List.length_singleton, Hsl.out]
          have Hvm := Lib.hid (OwnV.rd hvm)
          clear hvm hq hgW Hc3 c37
          have hgW : g ≤ v6.heap.size := by have := kr.lt; omega
          go_upto_region 16 with (first | (refine wpList_store_blk rfl _ (.tmp 13) (.tmp 113) rfl v6.heap.size (lgc M slm) rfl rfl _ _ (Blk.new v6 _ _) (by rw [lgc_size h8M]; exact log_info) (by rw [lgc_size h8M]; rfl) lgc_ones ?_))
          have kb := (Blk.new v6 70 #[.int .i64 0, .int .i64 0, .string ⟨#[]⟩, .int .i64 0, .int .i64 0, .int .i64 0, .int .i64 0, .int .i64 0, .int .i64 0, .int .i64 0, .int .i64 0, .int .i64 0, .int .i64 0, .int .i64 0, .int .i64 0, .int .i64 0, .int .i64 0, .int .i64 0, .int .i64 0, .int .i64 0, .int .i64 0, .int .i64 0, .int .i64 0, .int .i64 0, .int .i64 0, .int .i64 0, .int .i64 0, .int .i64 0, .int .i64 0, .int .i64 0, .int .i64 0, .int .i64 0, .int .i64 0, .int .i64 0, .int .i64 0, .slice none 0 0, .bool false, .int .i64 0]).row (lgc M slm)
          have hbv := below_setRow ((Below.refl v6.heap.size v6).alloc (Nat.le_refl _) (.cells #[.int .i64 0, .int .i64 0, .string ⟨#[]⟩, .int .i64 0, .int .i64 0, .int .i64 0, .int .i64 0, .int .i64 0, .int .i64 0, .int .i64 0, .int .i64 0, .int .i64 0, .int .i64 0, .int .i64 0, .int .i64 0, .int .i64 0, .int .i64 0, .int .i64 0, .int .i64 0, .int .i64 0, .int .i64 0, .int .i64 0, .int .i64 0, .int .i64 0, .int .i64 0, .int .i64 0, .int .i64 0, .int .i64 0, .int .i64 0, .int .i64 0, .int .i64 0, .int .i64 0, .int .i64 0, .int .i64 0, .int .i64 0, .slice none 0 0, .bool false, .int .i64 0] 70)) v6.heap.size (lgc M slm) (Nat.le_refl _)
          obtain ⟨W6, hW6⟩ : ∃ W6, (v6.alloc (.cells #[.int .i64 0, .int .i64 0, .string ⟨#[]⟩, .int .i64 0, .int .i64 0, .int .i64 0, .int .i64 0, .int .i64 0, .int .i64 0, .int .i64 0, .int .i64 0, .int .i64 0, .int .i64 0, .int .i64 0, .int .i64 0, .int .i64 0, .int .i64 0, .int .i64 0, .int .i64 0, .int .i64 0, .int .i64 0, .int .i64 0, .int .i64 0, .int .i64 0, .int .i64 0, .int .i64 0, .int .i64 0, .int .i64 0, .int .i64 0, .int .i64 0, .int .i64 0, .int .i64 0, .int .i64 0, .int .i64 0, .int .i64 0, .slice none 0 0, .bool false, .int .i64 0] 70)).setRow v6.heap.size (lgc M slm) = W6 := ⟨_, rfl⟩
          rw [hW6] at kb hbv ⊢
          replace hb := hb.trans (hbv.mono hgW)
          replace kr := kr.below hbv kr.lt
          replace Hrd := Lib.hid (Hrd.out.step hbv)
          replace ka := ka.below hbv ka.lt
          replace Hv := Lib.hid (Hv.out.step hbv)
          replace Hvm := Lib.hid (Hvm.out.step hbv)
          clear hW6 hbv
          obtain ⟨z, hz⟩ : ∃ z, v6.heap.size = z := ⟨_, rfl⟩
          rw [hz] at kb ⊢
          clear hz
          have la := ka.lt
          have lb := kb.lt
          have lr := kr.lt
          obtain ⟨Am, Nm, cm⟩ := slm
          simp only at hslm
          subst hslm
          have hvm := Hvm.out
          simp only at hvm
          rw [HMr.out] at hvm
          have hcap := hvm.caps
          obtain ⟨gm, om, Aq, nq, cq, rfl, hgm, e0, e1, e2, hrq⟩ := hvm.at_ N (by omega)
          have hel : (L.revs ++ [((x' : Int), rb, d)])[N]'(by simp [Hsl.out]) = ((x' : Int), rb, d) := by
            rw [List.getElem_append_right (by rw [Hsl.out]; exact Nat.le_refl _)]
            simp [Hsl.out]
          rw [hel] at e0 e1 hrq
          simp only at e0 e1 hrq
          have htk := hvm.take N (by omega)
          rw [show (L.revs ++ [((x' : Int), rb, d)]).take N = L.revs by rw [Hsl.out]; exact List.take_left' rfl] at htk
          have Htk := Lib.hid htk
          have Hrq := Lib.hid hrq
          have hvl := Hv.out
          have Hvl := Lib.hid hvl
          have b1 := ka.cell 1
          have b35 := ka.cell 35
          have b37 := ka.cell 37
          rw [lgc_base, HBa.out] at b1
          rw [lgc_revs h8] at b35
          rw [lgc_good h8, HG.out] at b37
          have m35 := kb.cell 35
          have m37 := kb.cell 37
          have mt0 := kb.cell (19 + x' * 2)
          have mt1 := kb.cell (19 + x' * 2 + 1)
          rw [lgc_revs h8M] at m35
          rw [lgc_good h8M, hMg] at m37
          have htt := lgc_table (s := (some ⟨gm, om, none⟩, N + 1, cm)) h8M x' hx8
          obtain ⟨_, hMt'⟩ := List.getElem?_eq_some_iff.1 hMt
          simp only [hMt'] at htt
          rw [htt.1] at mt0
          rw [htt.2] at mt1
          have r0 := kr.cell 0
          have r1_ := kr.cell 1
          have r2 := kr.cell 2
          have hN0 : (0 : Int) ≤ (N : Int) := by omega
          have hNc : (N : Int) ≤ (cm : Int) := by omega
          have hN1 : (N : Int) < ((N + 1 : Nat) : Int) := by omega
          have hN1' : (N : Int) < (N : Int) + 1 := by omega
          have hx0 : (0 : Int) ≤ (x' : Int) := by omega
          have hx8' : (x' : Int) < 8 := by omega
          have hw1 : IntKind.i64.wrap ((N : Int) + 1) = (N : Int) + 1 := IntWalk.i64_in _ (by omega)
          have hw2 : IntKind.i64.wrap ((m : Int) + (FB.size : Int)) = (m : Int) + (FB.size : Int) := IntWalk.i64_in _ (by omega)
          have hw3 : IntKind.i64.wrap (Ba + ((N : Int) + 1)) = Ba + ((N : Int) + 1) := IntWalk.i64_in _ (by omega)
          obtain ⟨lr', hlr⟩ : ∃ lr', L.revs = lr' := ⟨_, rfl⟩
          rw [hlr] at Htk Hvl
          have Hb := Lib.hid hb
          have Hrd := Hrd
          have Hg := Lib.hid hg
          clear hFs hFl hvm hcap htk hrq hvl htt hMt' kb ka kr hb Hv Hvm hel hMt hMg HMr hlr
          have KeepS := Lib.hid (fun (w' : World) (h : Below W6.heap.size W6 w') => (⟨h, by rw [h.cell la]; exact b1, by rw [h.cell la]; exact b35, by rw [h.cell la]; exact b37, by rw [h.cell lb]; exact m35, by rw [h.cell lb]; exact m37, by rw [h.cell lb]; exact mt0, by rw [h.cell lb]; exact mt1, by rw [h.cell lr]; exact r0, by rw [h.cell lr]; exact r1_, by rw [h.cell lr]; exact r2, by rw [h.cell hgm]; exact e0, by rw [h.cell hgm]; exact e1, by rw [h.cell hgm]; exact e2, Nat.lt_of_lt_of_le la h.size, Nat.lt_of_lt_of_le lb h.size, Nat.lt_of_lt_of_le lr h.size, Nat.lt_of_lt_of_le hgm h.size⟩ : Below W6.heap.size W6 w' ∧ w'.cell? ⟨y, 1, none⟩ = some (.int .i64 Ba) ∧ w'.cell? ⟨y, 35, none⟩ = some (.slice As N cs) ∧ w'.cell? ⟨y, 37, none⟩ = some (.int .i64 m) ∧ w'.cell? ⟨z, 35, none⟩ = some (.slice (some ⟨gm, om, none⟩) (N + 1) cm) ∧ w'.cell? ⟨z, 37, none⟩ = some (.int .i64 ((m : Int) + (FB.size : Int))) ∧ w'.cell? ⟨z, 19 + x' * 2, none⟩ = some (.int .i64 rb) ∧ w'.cell? ⟨z, 19 + x' * 2 + 1, none⟩ = some (.int .i64 (Ba + ((N : Int) + 1))) ∧ w'.cell? ⟨g, 0, none⟩ = some (.int .i64 x') ∧ w'.cell? ⟨g, 1, none⟩ = some (.int .i64 rb) ∧ w'.cell? ⟨g, 2, none⟩ = some (.slice A n c) ∧ w'.cell? ⟨gm, om + N * 3, none⟩ = some (.int .i64 x') ∧ w'.cell? ⟨gm, om + N * 3 + 1, none⟩ = some (.int .i64 rb) ∧ w'.cell? ⟨gm, om + N * 3 + 2, none⟩ = some (.slice Aq nq cq) ∧ y < w'.heap.size ∧ z < w'.heap.size ∧ g < w'.heap.size ∧ gm < w'.heap.size))
          have G1 := Lib.hid (fun (w' : World) (h : Below W6.heap.size W6 w' ∧ w'.cell? ⟨y, 1, none⟩ = some (.int .i64 Ba) ∧ w'.cell? ⟨y, 35, none⟩ = some (.slice As N cs) ∧ w'.cell? ⟨y, 37, none⟩ = some (.int .i64 m) ∧ w'.cell? ⟨z, 35, none⟩ = some (.slice (some ⟨gm, om, none⟩) (N + 1) cm) ∧ w'.cell? ⟨z, 37, none⟩ = some (.int .i64 ((m : Int) + (FB.size : Int))) ∧ w'.cell? ⟨z, 19 + x' * 2, none⟩ = some (.int .i64 rb) ∧ w'.cell? ⟨z, 19 + x' * 2 + 1, none⟩ = some (.int .i64 (Ba + ((N : Int) + 1))) ∧ w'.cell? ⟨g, 0, none⟩ = some (.int .i64 x') ∧ w'.cell? ⟨g, 1, none⟩ = some (.int .i64 rb) ∧ w'.cell? ⟨g, 2, none⟩ = some (.slice A n c) ∧ w'.cell? ⟨gm, om + N * 3, none⟩ = some (.int .i64 x') ∧ w'.cell? ⟨gm, om + N * 3 + 1, none⟩ = some (.int .i64 rb) ∧ w'.cell? ⟨gm, om + N * 3 + 2, none⟩ = some (.slice Aq nq cq) ∧ y < w'.heap.size ∧ z < w'.heap.size ∧ g < w'.heap.size ∧ gm < w'.heap.size) => (samerevs_true lr' (some ⟨gm, om, none⟩) As N N cm cs w' ((Htk.out.below h.1).more h.1.size) ((Hvl.out.below h.1).more h.1.size)).mono (R' := fun e w'' => e = .returned (.bool true) ∧ (Below W6.heap.size W6 w'' ∧ w''.cell? ⟨y, 1, none⟩ = some (.int .i64 Ba) ∧ w''.cell? ⟨y, 35, none⟩ = some (.slice As N cs) ∧ w''.cell? ⟨y, 37, none⟩ = some (.int .i64 m) ∧ w''.cell? ⟨z, 35, none⟩ = some (.slice (some ⟨gm, om, none⟩) (N + 1) cm) ∧ w''.cell? ⟨z, 37, none⟩ = some (.int .i64 ((m : Int) + (FB.size : Int))) ∧ w''.cell? ⟨z, 19 + x' * 2, none⟩ = some (.int .i64 rb) ∧ w''.cell? ⟨z, 19 + x' * 2 + 1, none⟩ = some (.int .i64 (Ba + ((N : Int) + 1))) ∧ w''.cell? ⟨g, 0, none⟩ = some (.int .i64 x') ∧ w''.cell? ⟨g, 1, none⟩ = some (.int .i64 rb) ∧ w''.cell? ⟨g, 2, none⟩ = some (.slice A n c) ∧ w''.cell? ⟨gm, om + N * 3, none⟩ = some (.int .i64 x') ∧ w''.cell? ⟨gm, om + N * 3 + 1, none⟩ = some (.int .i64 rb) ∧ w''.cell? ⟨gm, om + N * 3 + 2, none⟩ = some (.slice Aq nq cq) ∧ y < w''.heap.size ∧ z < w''.heap.size ∧ g < w''.heap.size ∧ gm < w''.heap.size)) (fun e w'' hh => ⟨hh.1, KeepS.out _ (h.1.trans (hh.2.mono h.1.size))⟩))
          have G2 := Lib.hid (fun (w' : World) (h : Below W6.heap.size W6 w' ∧ w'.cell? ⟨y, 1, none⟩ = some (.int .i64 Ba) ∧ w'.cell? ⟨y, 35, none⟩ = some (.slice As N cs) ∧ w'.cell? ⟨y, 37, none⟩ = some (.int .i64 m) ∧ w'.cell? ⟨z, 35, none⟩ = some (.slice (some ⟨gm, om, none⟩) (N + 1) cm) ∧ w'.cell? ⟨z, 37, none⟩ = some (.int .i64 ((m : Int) + (FB.size : Int))) ∧ w'.cell? ⟨z, 19 + x' * 2, none⟩ = some (.int .i64 rb) ∧ w'.cell? ⟨z, 19 + x' * 2 + 1, none⟩ = some (.int .i64 (Ba + ((N : Int) + 1))) ∧ w'.cell? ⟨g, 0, none⟩ = some (.int .i64 x') ∧ w'.cell? ⟨g, 1, none⟩ = some (.int .i64 rb) ∧ w'.cell? ⟨g, 2, none⟩ = some (.slice A n c) ∧ w'.cell? ⟨gm, om + N * 3, none⟩ = some (.int .i64 x') ∧ w'.cell? ⟨gm, om + N * 3 + 1, none⟩ = some (.int .i64 rb) ∧ w'.cell? ⟨gm, om + N * 3 + 2, none⟩ = some (.slice Aq nq cq) ∧ y < w'.heap.size ∧ z < w'.heap.size ∧ g < w'.heap.size ∧ gm < w'.heap.size) => (samerev_true (x' : Int) rb d Aq A nq n cq c w' ((Hrq.out.below h.1).more h.1.size) ((Hrd.out.below h.1).more h.1.size)).mono (R' := fun e w'' => e = .returned (.bool true) ∧ (Below W6.heap.size W6 w'' ∧ w''.cell? ⟨y, 1, none⟩ = some (.int .i64 Ba) ∧ w''.cell? ⟨y, 35, none⟩ = some (.slice As N cs) ∧ w''.cell? ⟨y, 37, none⟩ = some (.int .i64 m) ∧ w''.cell? ⟨z, 35, none⟩ = some (.slice (some ⟨gm, om, none⟩) (N + 1) cm) ∧ w''.cell? ⟨z, 37, none⟩ = some (.int .i64 ((m : Int) + (FB.size : Int))) ∧ w''.cell? ⟨z, 19 + x' * 2, none⟩ = some (.int .i64 rb) ∧ w''.cell? ⟨z, 19 + x' * 2 + 1, none⟩ = some (.int .i64 (Ba + ((N : Int) + 1))) ∧ w''.cell? ⟨g, 0, none⟩ = some (.int .i64 x') ∧ w''.cell? ⟨g, 1, none⟩ = some (.int .i64 rb) ∧ w''.cell? ⟨g, 2, none⟩ = some (.slice A n c) ∧ w''.cell? ⟨gm, om + N * 3, none⟩ = some (.int .i64 x') ∧ w''.cell? ⟨gm, om + N * 3 + 1, none⟩ = some (.int .i64 rb) ∧ w''.cell? ⟨gm, om + N * 3 + 2, none⟩ = some (.slice Aq nq cq) ∧ y < w''.heap.size ∧ z < w''.heap.size ∧ g < w''.heap.size ∧ gm < w''.heap.size)) (fun e w'' hh => ⟨hh.1, KeepS.out _ (h.1.trans (hh.2.mono h.1.size))⟩))
          have hS7 := KeepS.out W6 (Below.refl _ _)
          clear b1 b35 b37 m35 m37 mt0 mt1 r0 r1_ r2 e0 e1 e2 la lb lr hgm
          go_wp2_with fail
          go_region_held3 (fun w' => Below W6.heap.size W6 w' ∧ w'.cell? ⟨y, 1, none⟩ = some (.int .i64 Ba) ∧ w'.cell? ⟨y, 35, none⟩ = some (.slice As N cs) ∧ w'.cell? ⟨y, 37, none⟩ = some (.int .i64 m) ∧ w'.cell? ⟨z, 35, none⟩ = some (.slice (some ⟨gm, om, none⟩) (N + 1) cm) ∧ w'.cell? ⟨z, 37, none⟩ = some (.int .i64 ((m : Int) + (FB.size : Int))) ∧ w'.cell? ⟨z, 19 + x' * 2, none⟩ = some (.int .i64 rb) ∧ w'.cell? ⟨z, 19 + x' * 2 + 1, none⟩ = some (.int .i64 (Ba + ((N : Int) + 1))) ∧ w'.cell? ⟨g, 0, none⟩ = some (.int .i64 x') ∧ w'.cell? ⟨g, 1, none⟩ = some (.int .i64 rb) ∧ w'.cell? ⟨g, 2, none⟩ = some (.slice A n c) ∧ w'.cell? ⟨gm, om + N * 3, none⟩ = some (.int .i64 x') ∧ w'.cell? ⟨gm, om + N * 3 + 1, none⟩ = some (.int .i64 rb) ∧ w'.cell? ⟨gm, om + N * 3 + 2, none⟩ = some (.slice Aq nq cq) ∧ y < w'.heap.size ∧ z < w'.heap.size ∧ g < w'.heap.size ∧ gm < w'.heap.size) (first | with_reducible assumption | exact KeepS.out _ (Below.drew (Below.refl _ _)) | exact KeepS.out _ (by assumption) | exact KeepS.out _ (Below.drew (by assumption)) | (go_split_ands; exact KeepS.out _ (by assumption)))
            (first | (go_at_call 39; with_reducible refine (G1.out _ (by assumption)).mono ?_; rintro e w9 ⟨rfl, hS9⟩) | (go_at_call 27; with_reducible refine (G2.out _ (by assumption)).mono ?_; rintro e w9 ⟨rfl, hS9⟩))
          go_wp2_with fail
          have hS9q : Below W6.heap.size W6 w9 ∧ w9.cell? ⟨y, 1, none⟩ = some (.int .i64 Ba) ∧ w9.cell? ⟨y, 35, none⟩ = some (.slice As N cs) ∧ w9.cell? ⟨y, 37, none⟩ = some (.int .i64 m) ∧ w9.cell? ⟨z, 35, none⟩ = some (.slice (some ⟨gm, om, none⟩) (N + 1) cm) ∧ w9.cell? ⟨z, 37, none⟩ = some (.int .i64 ((m : Int) + (FB.size : Int))) ∧ w9.cell? ⟨z, 19 + x' * 2, none⟩ = some (.int .i64 rb) ∧ w9.cell? ⟨z, 19 + x' * 2 + 1, none⟩ = some (.int .i64 (Ba + ((N : Int) + 1))) ∧ w9.cell? ⟨g, 0, none⟩ = some (.int .i64 x') ∧ w9.cell? ⟨g, 1, none⟩ = some (.int .i64 rb) ∧ w9.cell? ⟨g, 2, none⟩ = some (.slice A n c) ∧ w9.cell? ⟨gm, om + N * 3, none⟩ = some (.int .i64 x') ∧ w9.cell? ⟨gm, om + N * 3 + 1, none⟩ = some (.int .i64 rb) ∧ w9.cell? ⟨gm, om + N * 3 + 2, none⟩ = some (.slice Aq nq cq) ∧ y < w9.heap.size ∧ z < w9.heap.size ∧ g < w9.heap.size ∧ gm < w9.heap.size := by assumption
          go_ret
          exact ⟨rfl, Hg.out ▸ Hb.out.trans (hS9q.1.mono (by have := Hb.out.size; omega))⟩
        · have hEnn : (En != 0) = true := by simpa using hEn0
          go_wp2_with fail
          go_ret
          exact ⟨rfl, hg ▸ hb⟩
      · have hEnE : En = E1 := by
          rw [← HEn.out, ← hE1]
          unfold nextE
          rw [if_pos (by rw [hE1]; exact hone)]
        have hcr := hrev_bad ra rb d A n c v3 Hrd.out (by rw [hE1]; exact hone)
        rw [hE1] at hcr
        have Hcr := Lib.hid hcr
        have hEnn : (En != 0) = true := by rw [hEnE]; simpa using hone
        clear hcr hE1 hEnE
        go_wp2_with fail
        refine Hcr.out.mono ?_
        rintro e v4 ⟨rfl, hq⟩
        replace hb := hb.trans (hq.mono hgW)
        replace kr := kr.below hq lr
        replace ka := ka.below hq la
        replace Hrd := Lib.hid (Hrd.out.step hq)
        clear hq hgW Hcr c0 c1 c2
        have la := ka.lt
        have lr := kr.lt
        have hgW : g ≤ v4.heap.size := by omega
        have c0 := kr.cell 0
        have c1 := kr.cell 1
        have c2 := kr.cell 2
        have hnn := Nx.out v4 Hrd.out
        have Hnn := Lib.hid hnn
        clear hnn
        go_wp2_with (first | (refine wpList_load_blk rfl _ (.tmp 11) rfl y rfl _ (log_row ka h8) ?_))
        refine Hnn.out.mono ?_
        rintro e v5 ⟨rfl, hq⟩
        replace hb := hb.trans (hq.mono hgW)
        go_wp2_with fail
        go_ret
        exact ⟨rfl, hg ▸ hb⟩
  · have hEn : (E != 0) = true := by simpa using hE0
    go_wp2_with fail
    go_ret
    exact ⟨rfl, hg ▸ hb⟩
end Go.Proofs.Ytfncpcmaplhojaa
