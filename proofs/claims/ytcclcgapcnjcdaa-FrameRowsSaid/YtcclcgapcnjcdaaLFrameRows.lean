/- FrameRows: the walk. Frames one behind the other are got as they were; a torn one behind them changes nothing. -/
import Derived.Test.YtcclcgapcnjcdaaOpenFrames
import Derived.Test.YtcclcgapcnjcdaaWithin
namespace Go.Proofs.Ytcclcgapcnjcdaa
open Go.ChangeShapes Go.WideShapes Go.RowKit Go.Joins Go.Deep
set_option linter.unusedVariables false
set_option linter.unusedSimpArgs false
set_option maxRecDepth 100000
set_option maxHeartbeats 4000000

theorem frameRows_any (l : List Fm) (A : Option Addr) (n c : Nat) (f : Fm) (k : Int) (w : World) (h : RdF w w.heap.size A n c l) (hn : n ≤ 5864062014634) (hfs : f.2.size ≤ 140737488351232) :
    Calls Try.prog 4 #[.slice A n c, .agg #[.int .i64 f.1, .string f.2], .int .i64 k] w fun e w' => e = .returned (.bool true) ∧ Below w.heap.size w w' := by
  have kf := Blk.new w 37 #[.int .i64 f.1, .string f.2]
  have hw0 := (Below.refl w.heap.size w).alloc (Nat.le_refl _) (.cells #[.int .i64 f.1, .string f.2] 37)
  have H0 := Lib.hid (h.stepA (.cells #[.int .i64 f.1, .string f.2] 37))
  have Kf := Lib.hid kf
  have hbx := H0.out.1
  have Hln := Lib.hid hbx
  clear h kf hbx
  go_enter Try.func4, Try.ntmps4
  go_wp2_with fail
  refine (scan_any ⟨#[120]⟩ [] [120] (by simp) rfl (by decide) (by decide) (by decide) 0 0 rfl rfl _).mono ?_
  rintro e w1 ⟨A1, c1, rfl, _, hb1⟩
  have hw1 := hw0.trans (hb1.mono hw0.size)
  have K1 := Lib.hid (Kf.out.below hb1 Kf.out.lt)
  have H1 := Lib.hid (H0.out.step hb1)
  clear hb1 hw0 Kf H0
  go_wp2_with fail
  have hc := put_okF (9, ⟨#[122]⟩) (by decide) w1
  rw [show txF (9, ⟨#[122]⟩) = [9, 0, 1, 122, 219, 102, 190, 106] from frL_z] at hc
  refine hc.mono ?_
  rintro e w2 ⟨rfl, hb2⟩
  have hw2 := hw1.trans (hb2.mono hw1.size)
  have K2 := Lib.hid (K1.out.below hb2 K1.out.lt)
  have H2 := Lib.hid (H1.out.step hb2)
  clear hb2 hw1 K1 H1 hc
  go_wp2_with fail
  refine (cloneF_any l A n c w2 H2.out (by omega)).mono ?_
  rintro e w3 ⟨v3, rfl, ho3, hb3⟩
  have hw3 := hw2.trans (hb3.mono hw2.size)
  have K3 := Lib.hid (K2.out.below hb3 K2.out.lt)
  have hw3b := hw3.alloc hw3.size (.cells #[.int .i64 9, .string ⟨#[122]⟩] 37)
  have K3b := Lib.hid (K3.out.alloc (.cells #[.int .i64 9, .string ⟨#[122]⟩] 37))
  have Ho3 : Hid (OwnF (w3.alloc (.cells #[.int .i64 9, .string ⟨#[122]⟩] 37)) w2.heap.size v3 l) := Lib.hid (World.ownsRow.alloc ho3 _)
  have hl3 : l.length ≤ 5864062014636 := by have := Hln.out; omega
  have hs3 := hb3.size
  obtain ⟨L, hL⟩ : ∃ L, l ++ [((9 : Int), (⟨#[122]⟩ : ByteArray))] = L := ⟨_, rfl⟩
  obtain ⟨M, hM⟩ : ∃ M, L.length = M := ⟨_, rfl⟩
  have hM1 : M ≤ 5864062014635 := by rw [← hM, ← hL, List.length_append, List.length_singleton]; have := Hln.out; omega
  have HM := Lib.hid hM
  have HL := Lib.hid hL
  clear hL hM
  have hK2 := K2.out.lt
  clear ho3 hw2 K2 H2
  go_wp2_with (first | (at_builtin; go_loud (refine wpList_app_fm w3 9 ⟨#[122]⟩ rfl (.tmp 45) (.tmp 47) rfl w2.heap.size _ l rfl Ho3.out 1 w3.heap.size rfl rfl hl3 hs3 ?_; intro v4 w4 k1 k2 k3; obtain ⟨A4, c4, hv4, hr4⟩ := k1.rd; rw [HL.out, HM.out] at hv4; rw [HL.out, HM.out] at hr4; subst hv4)))
  have hw2s : w.heap.size ≤ w2.heap.size := by omega
  have hw4 := hw3b.trans (k2.mono hw2s)
  have K4 := Lib.hid (K3b.out.below k2 hK2)
  have H4 := Lib.hid hr4
  have hMle := hr4.le
  clear k1 k2 k3 hr4 hb3 hw3 hw3b K3 K3b Ho3
  go_wp2_with fail
  go_loopw [11, 12, 14, 15, 16, 50] (fun sv gv pv tv ev iv wr => ∃ (i : Nat) (S : ByteArray), i ≤ M ∧ iv = .int .i64 i ∧ sv = .string S ∧ S.size ≤ 4007 * i ∧ Hid (S.data.toList = flat ((L.take i).filter (fun p => decide (okF p)))) ∧ Hid (OwnF wr w4.heap.size gv ((L.take i).filter (fun p => decide (okF p)))) ∧ Below w4.heap.size w4 wr) (fun _ _ _ _ _ i _ => M - (intOf i).toNat)
  case atStart => exact ⟨0, ⟨#[]⟩, by omega, rfl, rfl, by decide, Lib.hid rfl, Lib.hid (OwnF.nil _ _), Below.refl _ _⟩
  case round =>
    obtain ⟨i, S, hi, rfl, rfl, hSs, hSd, hown, hbw⟩ := hrel
    by_cases hlt : i < M
    · have hil : i < L.length := by have := HM.out; omega
      obtain ⟨b, o, rfl, hbb, c0, c1⟩ := (H4.out.below hbw).at_ i hlt
      have hts : L.take (i + 1) = L.take i ++ [L[i]] := List.take_succ_eq_append_getElem hil
      obtain ⟨p, hp⟩ : ∃ p, p = L[i] := ⟨_, rfl⟩
      rw [← hp] at hts c0 c1
      clear hp
      have hi0 : (0 : Int) ≤ (i : Int) := by omega
      have hiM : (i : Int) < (M : Int) := by omega
      have hws := hbw.size
      have hgl : b < wr.heap.size := by omega
      have kx := Blk.new wr 37 #[.int .i64 p.1, .string p.2]
      have hwx := hbw.alloc hbw.size (.cells #[.int .i64 p.1, .string p.2] 37)
      have Hts := Lib.hid hts
      have Kx := Lib.hid kx
      by_cases hok : okF p
      · have hc := put_okF p hok (wr.alloc (.cells #[.int .i64 p.1, .string p.2] 37))
        have hfl : (L.take (i + 1)).filter (fun p => decide (okF p)) = (L.take i).filter (fun p => decide (okF p)) ++ [p] := by rw [hts, List.filter_append]; simp [hok]
        obtain ⟨t, ht⟩ : ∃ t, (⟨(txF p).toArray⟩ : ByteArray) = t := ⟨_, rfl⟩
        have htd : t.data.toList = txF p := by rw [← ht]
        have hts2 : t.size = p.2.size + 7 := by rw [← bs_len, htd, txF_len]
        have hp4 := hok.2.2
        rw [ht] at hc
        have Hc := Lib.hid hc
        have Hfl := Lib.hid hfl
        have hg1 : (9223372036854775807 < S.size + t.size) = False := by simp; omega
        obtain ⟨S2, hS2⟩ : ∃ X, S ++ t = X := ⟨_, rfl⟩
        have hS2s : S2.size ≤ 4007 * (i + 1) := by rw [← hS2, ByteArray.size_append]; omega
        have HS2 : Hid (S2.data.toList = flat ((L.take (i + 1)).filter (fun p => decide (okF p)))) := Lib.hid (by rw [← hS2, bs_append, hSd.out, hfl, flat_app, htd]; simp [flat])
        have hkt : ((L.take i).filter (fun p => decide (okF p))).length ≤ 5864062014636 := by have h1 := List.length_filter_le (fun p => decide (okF p)) (L.take i); rw [List.length_take] at h1; omega
        clear hc hts hfl ht htd kx hts2 hSd hok
        obtain ⟨pk, pt⟩ := p
        simp only at c0 c1 hwx Kx Hc Hfl
        go_wp2_with fail
        refine Hc.out.mono ?_
        rintro e w5 ⟨rfl, hb5⟩
        have hw5 := hwx.trans (hb5.mono hwx.size)
        have kx5 := Kx.out.below hb5 Kx.out.lt
        have x0 := kx5.cell 0
        have x1 := kx5.cell 1
        have lx := kx5.lt
        have hown5 : Hid (OwnF (w5.alloc (.cells #[.int .i64 pk, .string pt] 37)) w4.heap.size _ ((L.take i).filter (fun p => decide (okF p)))) := Lib.hid (World.ownsRow.alloc (own_below (World.ownsRow.alloc hown.out (.cells #[.int .i64 pk, .string pt] 37)) hb5) _)
        have hw6 := hw5.alloc hw5.size (.cells #[.int .i64 pk, .string pt] 37)
        have hB5 := hw5.size
        clear hb5 hown kx5 Kx
        go_wp2_with (first | (at_builtin; go_loud (refine wpList_app_fm w5 pk pt rfl (.tmp 64) (.tmp 66) rfl w4.heap.size _ _ rfl hown5.out 1 w5.heap.size rfl rfl hkt hB5 ?_; intro v8 w8 k1 k2 k3)))
        rw [← Hfl.out] at k1
        have K1 := Lib.hid k1
        have hw9 := hw6.trans k2
        clear k1 k3
        go_roundw
        case rel => exact ⟨i + 1, S2, by omega, by go_num, rfl, hS2s, HS2, K1, hw9⟩
        case measure => simp [intOf]; omega
      · have hfl : (L.take (i + 1)).filter (fun p => decide (okF p)) = (L.take i).filter (fun p => decide (okF p)) := by rw [hts, List.filter_append]; simp [hok]
        have hc := put_noF p hok (wr.alloc (.cells #[.int .i64 p.1, .string p.2] 37))
        have Hc := Lib.hid hc
        have HSd : Hid (S.data.toList = flat ((L.take (i + 1)).filter (fun p => decide (okF p)))) := Lib.hid (by rw [hfl]; exact hSd.out)
        have hown5 : Hid (OwnF (wr.alloc (.cells #[.int .i64 p.1, .string p.2] 37)) w4.heap.size _ ((L.take (i + 1)).filter (fun p => decide (okF p)))) := Lib.hid (by rw [hfl]; exact World.ownsRow.alloc hown.out _)
        clear hc hts hfl kx hSd hok hown
        obtain ⟨pk, pt⟩ := p
        simp only at c0 c1 hwx Kx Hc
        go_wp2_with fail
        refine Hc.out.mono ?_
        rintro e w5 ⟨⟨E, hE, rfl⟩, hb5⟩
        have hne : (E == 0) = false := by simpa using hE
        have hw5 := hwx.trans (hb5.mono hwx.size)
        have hown6 := Lib.hid (own_below hown5.out hb5)
        clear hb5 hE
        go_wp2_with fail
        go_roundw
        case rel => exact ⟨i + 1, S, by omega, by go_num, rfl, by omega, HSd, hown6, hw5⟩
        case measure => simp [intOf]; omega
    · have hiM : decide (i < M) = false := by simpa using hlt
      obtain rfl : i = M := by omega
      have hSd2 := hSd.out
      have hown2 := hown.out
      rw [List.take_of_length_le (by have := HM.out; omega)] at hSd2 hown2
      obtain ⟨gs, hgs⟩ : ∃ gs, L.filter (fun p => decide (okF p)) = gs := ⟨_, rfl⟩
      have hgok : ∀ p ∈ gs, okF p := by
        intro p hp
        rw [← hgs, List.mem_filter] at hp
        simpa using hp.2
      have hgl : gs.length ≤ 5864062014636 := by rw [← hgs]; have h1 := List.length_filter_le (fun p => decide (okF p)) L; have := HM.out; omega
      rw [hgs] at hSd2 hown2
      obtain ⟨A9, c9, hv9, hr9⟩ := hown2.rd
      obtain ⟨N, hN⟩ : ∃ N, gs.length = N := ⟨_, rfl⟩
      rw [hN] at hv9 hr9
      subst hv9
      have H9 := Lib.hid hr9
      have HN := Lib.hid hN
      have Hgok := Lib.hid hgok
      have HSd := Lib.hid hSd2
      have hfG : (flat gs).length = S.size := by rw [← hSd2]; rfl
      have HfG := Lib.hid hfG
      have hwr := hw4.trans (hbw.mono hw4.size)
      have K9 := Lib.hid (K4.out.below hbw K4.out.lt)
      clear hown hown2 hr9 hSd hSd2 hgs hgok hN hfG hbw K4
      have d0 := K9.out.cell 0
      have d1 := K9.out.cell 1
      have ld := K9.out.lt
      by_cases hok : okF f
      · obtain ⟨t, ht⟩ : ∃ t, (⟨(txF f).toArray⟩ : ByteArray) = t := ⟨_, rfl⟩
        have htd : t.data.toList = txF f := by rw [← ht]
        have hts : t.size = f.2.size + 7 := by rw [← bs_len, htd, txF_len]
        have hc := put_okF f hok wr
        rw [ht] at hc
        have Hc := Lib.hid hc
        have hp4 := hok.2.2
        have hE1 : t.toList.isEmpty = false := by
          rw [ByteArray.toList_eq, htd]
          have := txF_len f
          cases hx : txF f with
          | nil => rw [hx] at this; simp at this
          | cons a b => rfl
        have hJ := wi_lt k t.size (by omega)
        have Hw := Lib.hid (fun w' : World => within_any k t.size w' (by omega) (by omega))
        generalize wi k t.size = J at *
        have hJ0 : (0 : Int) ≤ (J : Int) := by omega
        have hJt : (J : Int) ≤ (t.size : Int) := by omega
        obtain ⟨Z, hZ⟩ : ∃ Z, t.extract 0 J = Z := ⟨_, rfl⟩
        have hZd : Z.data.toList = (txF f).take J := by rw [← hZ, bs_extract, htd]; simp
        have hZs : Z.size ≤ 4007 := by rw [← bs_len, hZd, List.length_take, txF_len]; omega
        have g2 : (9223372036854775807 < S.size + Z.size) = False := by simp; omega
        obtain ⟨X, hX⟩ : ∃ X, S ++ Z = X := ⟨_, rfl⟩
        have hXd : X.data.toList = flat gs ++ (txF f).take J := by rw [← hX, bs_append, HSd.out, hZd]
        have hXs : X.size ≤ 1000000000000000000 := by rw [← hX, ByteArray.size_append]; omega
        have hgf : (gf ((txF f).take J)).2.2.2 ≠ 0 := by
          have h1 := txF_len f
          unfold txF at h1 ⊢
          rw [gf_cut _ _ _ (by have := hok.1; omega) (by have := hok.2.1; omega) hok.2.2 (by rw [h1]; omega)]
          decide
        have Hsc := Lib.hid (fun w' => scan_any X gs _ Hgok.out hXd hgf hgl hXs N S.size HN.out HfG.out w')
        clear hc ht htd hts hok hJ hZd hXd hgf
        go_wp2_with fail
        refine Hc.out.mono ?_
        rintro e w5 ⟨rfl, hb5⟩
        have hw5 := hwr.trans (hb5.mono hwr.size)
        have H10 := Lib.hid (H9.out.step hb5)
        clear hb5
        go_wp2_with fail
        refine (Hw.out _).mono ?_
        rintro e w55 ⟨rfl, rfl⟩
        go_wp2_with fail
        refine (Hsc.out _).mono ?_
        rintro e w6 ⟨A6, c6, rfl, hr6, hb6⟩
        have hw6 := hw5.trans (hb6.mono hw5.size)
        have H11 := Lib.hid (H10.out.step hb6)
        have Hg := Lib.hid hr6
        clear hb6 hr6
        go_wp2_with fail
        refine (equalF_any gs A6 A9 N N c6 c9 _ _ w6 Hg.out H11.out).mono ?_
        rintro e w7 ⟨rfl, hb7⟩
        have hw7 := hw6.trans (hb7.mono hw6.size)
        go_wp2_with fail
        go_ret
        exact ⟨rfl, hw7⟩
      · have Hc := Lib.hid (put_noF f hok wr)
        clear hok
        go_wp2_with fail
        refine Hc.out.mono ?_
        rintro e w5 ⟨⟨E, hE, rfl⟩, hb5⟩
        have hne : (E == 0) = false := by simpa using hE
        have hw5 := hwr.trans (hb5.mono hwr.size)
        have H10 := Lib.hid (H9.out.step hb5)
        have he0 : (⟨#[]⟩ : ByteArray).size = 0 := rfl
        have g2 : (9223372036854775807 < S.size + (⟨#[]⟩ : ByteArray).size) = False := by simp; omega
        obtain ⟨X, hX⟩ : ∃ X, S ++ ⟨#[]⟩ = X := ⟨_, rfl⟩
        have hXd : X.data.toList = flat gs ++ [] := by rw [← hX, bs_append, HSd.out]
        have hXs : X.size ≤ 1000000000000000000 := by rw [← hX, ByteArray.size_append]; omega
        have Hsc := Lib.hid (fun w' => scan_any X gs [] Hgok.out hXd (by decide) hgl hXs N S.size HN.out HfG.out w')
        clear hb5 hE hXd he0
        go_wp2_with fail
        refine (Hsc.out _).mono ?_
        rintro e w6 ⟨A6, c6, rfl, hr6, hb6⟩
        have hw6 := hw5.trans (hb6.mono hw5.size)
        have H11 := Lib.hid (H10.out.step hb6)
        have Hg := Lib.hid hr6
        clear hb6 hr6
        go_wp2_with fail
        refine (equalF_any gs A6 A9 N N c6 c9 _ _ w6 Hg.out H11.out).mono ?_
        rintro e w7 ⟨rfl, hb7⟩
        have hw7 := hw6.trans (hb7.mono hw6.size)
        go_wp2_with fail
        go_ret
        exact ⟨rfl, hw7⟩
theorem walk_FrameRows (v : Value) (l : List Fm) (v' : Value) (f : Int × ByteArray) (hf : IsFrame v' f) (k : Int) (wk : (Lit.int .i64 k).wf = true) (w : World) (hx : IsFrames w v l) :
    Calls Try.prog 4 #[v, v', .int .i64 k] w fun e w' => e = .returned (.bool true) ∧ Below w.heap.size w w' := by
  obtain ⟨A, n, c, rfl, h, hn⟩ := hx
  obtain ⟨rfl, hs⟩ := hf
  exact frameRows_any l A n c f k w h hn hs
end Go.Proofs.Ytcclcgapcnjcdaa
