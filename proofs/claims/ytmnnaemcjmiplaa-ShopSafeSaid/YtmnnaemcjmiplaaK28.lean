/- Contract of shop.table. -/
import Derived.Test.YtmnnaemcjmiplaaK27
namespace Go.Proofs.Ytmnnaemcjmiplaa
open Go.ChangeShapes Go.WideShapes Go.RowKit
set_option linter.unusedVariables false
set_option linter.unusedSimpArgs false
set_option maxRecDepth 100000
set_option maxHeartbeats 4000000

/-- the table behind revisions, of which the first makes revision n + 1 -/
def tblF : Int → Tb → List Rv → Tb
  | _, t, [] => t
  | n, t, r :: l => tblF (n + 1) (t.set r.1.toNat (r.2.1, n + 1)) l
theorem tblF_snoc : ∀ (l : List Rv) (n : Int) (t : Tb) (r : Rv), tblF n t (l ++ [r]) = (tblF n t l).set r.1.toNat (r.2.1, n + (l.length : Int) + 1)
  | [], n, t, r => by simp [tblF]
  | q :: l, n, t, r => by
    rw [List.cons_append, tblF, tblF_snoc l, List.length_cons]
    simp only [tblF]
    congr 2
    omega
theorem tblF_len : ∀ (l : List Rv) (n : Int) (t : Tb), (tblF n t l).length = t.length
  | [], n, t => rfl
  | r :: l, n, t => by rw [tblF, tblF_len l, List.length_set]
theorem shop_first_range {w : World} {q : Nat} {s : Sh} {sl : Sl} {mp : Option Addr} (h : Blk w q 108 (shc s sl mp)) (h8 : Lg8 s.log) : w.rangeAt q 8 (tc s.log.first) := h.range fun j v hj => by
  have hjl : j < 16 := by have := (List.getElem?_eq_some_iff.1 hj).1; rw [tc_len, h8.1] at this; omega
  rw [show 8 + j = 5 + (3 + j) by omega, shc_log (3 + j) (by omega) h8, lgc_at, lgl_first h8 j hjl]; exact hj
theorem zero16 : #[.int .i64 0, .int .i64 0, .int .i64 0, .int .i64 0, .int .i64 0, .int .i64 0, .int .i64 0, .int .i64 0, .int .i64 0, .int .i64 0, .int .i64 0, .int .i64 0, .int .i64 0, .int .i64 0, .int .i64 0, .int .i64 0] = (tc tb0).toArray := rfl
theorem stable_any (q : Nat) (s : Sh) (sl : Sl) (mp : Option Addr) (fl : Int) (k : Nat) (w : World) (hk : Blk w q 108 (shc s sl mp)) (h8 : Lg8 s.log) (hsl : sl.2.1 = s.log.revs.length) (hb0 : 0 ≤ s.log.base) (hb1 : s.log.base ≤ 2147483647) (hr : s.log.revs.length ≤ 1000) (hfl : fl = s.log.base + k) (hkl : k ≤ s.log.revs.length)
    (hv : RdR w w.heap.size sl.1 sl.2.1 sl.2.2 s.log.revs) (hone : ∀ r ∈ s.log.revs, 0 ≤ r.1 ∧ r.1 ≤ 7) :
    Calls Try.prog 73 #[.pointer (some ⟨q, 0, none⟩), .int .i64 fl] w fun e w' => e = .returned (.agg (tc (tblF s.log.base s.log.first (s.log.revs.take k))).toArray) ∧ Below w.heap.size w w' := by
  obtain ⟨A, n, c⟩ := sl
  simp only at hsl hv
  obtain ⟨Ba, hBa⟩ : ∃ Ba, s.log.base = Ba := ⟨_, rfl⟩
  have c6 : (shc s (A, n, c) mp)[6]? = some (.int .i64 Ba) := by rw [← hBa]; exact shc_base h8
  have c40 : (shc s (A, n, c) mp)[40]? = some (.slice A n c) := shc_revs h8
  rw [hBa] at hfl hb0 hb1 ⊢
  have hkn : k ≤ n := by omega
  have hw : IntKind.i64.wrap (fl - Ba) = (k : Int) := by rw [hfl, show Ba + (k : Int) - Ba = k by omega]; exact IntWalk.i64_in _ (by omega)
  have hcap := hv.caps
  have hvt := hv.take k hkn
  obtain ⟨L, hL⟩ : ∃ L, s.log.revs.take k = L := ⟨_, rfl⟩
  have hLl : k = L.length := by rw [← hL, List.length_take]; omega
  have hoL : ∀ r ∈ L, 0 ≤ r.1 ∧ r.1 ≤ 7 := by rw [← hL]; exact fun r hr => hone r (List.mem_of_mem_take hr)
  rw [hL] at hvt ⊢
  have hn1 : n ≤ 1000 := by omega
  have hk1 : k ≤ 1000 := by omega
  have HLl := Lib.hid hLl
  have HoL := Lib.hid hoL
  have Hvt := Lib.hid hvt
  have H8 := Lib.hid h8
  have lq := hk.lt
  obtain ⟨FT, hFT⟩ : ∃ FT, s.log.first = FT := ⟨_, rfl⟩
  have hF8 : FT.length = 8 := by rw [← hFT]; exact h8.1
  have hr0 := shop_first_range (hk.alloc (.cells #[.int .i64 0, .int .i64 0, .int .i64 0, .int .i64 0, .int .i64 0, .int .i64 0, .int .i64 0, .int .i64 0, .int .i64 0, .int .i64 0, .int .i64 0, .int .i64 0, .int .i64 0, .int .i64 0, .int .i64 0, .int .i64 0] 53)) h8
  have kq1 := hk.alloc (.cells #[.int .i64 0, .int .i64 0, .int .i64 0, .int .i64 0, .int .i64 0, .int .i64 0, .int .i64 0, .int .i64 0, .int .i64 0, .int .i64 0, .int .i64 0, .int .i64 0, .int .i64 0, .int .i64 0, .int .i64 0, .int .i64 0] 53)
  have kt := Blk.new w 53 #[.int .i64 0, .int .i64 0, .int .i64 0, .int .i64 0, .int .i64 0, .int .i64 0, .int .i64 0, .int .i64 0, .int .i64 0, .int .i64 0, .int .i64 0, .int .i64 0, .int .i64 0, .int .i64 0, .int .i64 0, .int .i64 0]
  have hb1' := (Below.refl w.heap.size w).alloc (Nat.le_refl _) (.cells #[.int .i64 0, .int .i64 0, .int .i64 0, .int .i64 0, .int .i64 0, .int .i64 0, .int .i64 0, .int .i64 0, .int .i64 0, .int .i64 0, .int .i64 0, .int .i64 0, .int .i64 0, .int .i64 0, .int .i64 0, .int .i64 0] 53)
  rw [hFT] at hr0 ⊢
  have hk0 : (0 : Int) ≤ (k : Int) := by omega
  have hkI : (k : Int) ≤ (n : Int) := by omega
  have hkc : (k : Int) ≤ (c : Int) := by omega
  clear hLl hoL hvt hL hBa hfl hr hsl h8 hone hv hFT hk
  go_enter Try.func73, Try.ntmps73
  go_upto_region 1 with (fail)
  have hs1 : (w.alloc (.cells #[.int .i64 0, .int .i64 0, .int .i64 0, .int .i64 0, .int .i64 0, .int .i64 0, .int .i64 0, .int .i64 0, .int .i64 0, .int .i64 0, .int .i64 0, .int .i64 0, .int .i64 0, .int .i64 0, .int .i64 0, .int .i64 0] 53)).heap.size = w.heap.size + 1 := World.size_alloc _ _
  obtain ⟨W1, hW1⟩ : ∃ W1, w.alloc (.cells #[.int .i64 0, .int .i64 0, .int .i64 0, .int .i64 0, .int .i64 0, .int .i64 0, .int .i64 0, .int .i64 0, .int .i64 0, .int .i64 0, .int .i64 0, .int .i64 0, .int .i64 0, .int .i64 0, .int .i64 0, .int .i64 0] 53) = W1 := ⟨_, rfl⟩
  rw [hW1] at hr0 kq1 kt hb1' hs1 ⊢
  obtain ⟨g, hg⟩ : ∃ g, w.heap.size = g := ⟨_, rfl⟩
  rw [hg] at kt hb1' hs1 lq ⊢
  have Hg := Lib.hid hg
  have Hs1 := Lib.hid hs1
  clear hW1 hg hs1
  have lt1 := kt.lt
  have hsF : Hid ((tc FT).toArray.size = 16) := Lib.hid (by rw [List.size_toArray, tc_len, hF8])
  have lq1 := kq1.lt
  go_upto_region 2 with (first | (refine wpList_load_mid rfl _ (.tmp 11) rfl q 8 rfl (tc FT) _ hr0 Try.underlying53 rfl (by rw [tc_len, hF8]; exact tabS_info) ?_) | (refine wpList_store_blk rfl _ (.tmp 5) (.tmp 12) rfl W1.heap.size (tc FT).toArray rfl rfl _ _ (Blk.new W1 _ _) (by rw [hsF.out]; exact tabS_info) (by rw [hsF.out]; rfl) (tc_ones _) ?_))
  have hs1 := Hs1.out
  have k2 : Blk ((W1.alloc (.cells #[.int .i64 0, .int .i64 0, .int .i64 0, .int .i64 0, .int .i64 0, .int .i64 0, .int .i64 0, .int .i64 0, .int .i64 0, .int .i64 0, .int .i64 0, .int .i64 0, .int .i64 0, .int .i64 0, .int .i64 0, .int .i64 0] 53)).setRow W1.heap.size (tc FT).toArray) W1.heap.size 53 (tc FT).toArray := (Blk.new W1 53 #[.int .i64 0, .int .i64 0, .int .i64 0, .int .i64 0, .int .i64 0, .int .i64 0, .int .i64 0, .int .i64 0, .int .i64 0, .int .i64 0, .int .i64 0, .int .i64 0, .int .i64 0, .int .i64 0, .int .i64 0, .int .i64 0]).row _
  have oo : Only W1 ((W1.alloc (.cells #[.int .i64 0, .int .i64 0, .int .i64 0, .int .i64 0, .int .i64 0, .int .i64 0, .int .i64 0, .int .i64 0, .int .i64 0, .int .i64 0, .int .i64 0, .int .i64 0, .int .i64 0, .int .i64 0, .int .i64 0, .int .i64 0] 53)).setRow W1.heap.size (tc FT).toArray) (fun k => k = W1.heap.size) := (Only.alloc _ _).trans (Only.setRow _ _ _)
  have kq2 := kq1.only oo (by show ¬ q = W1.heap.size; omega)
  have kt2 := kt.only oo (by show ¬ g = W1.heap.size; omega)
  have hb2 := hb1'.trans (oo.below (B := g) (by omega) (fun k hk => by have hk : k = W1.heap.size := hk; omega))
  have hs2 : ((W1.alloc (.cells #[.int .i64 0, .int .i64 0, .int .i64 0, .int .i64 0, .int .i64 0, .int .i64 0, .int .i64 0, .int .i64 0, .int .i64 0, .int .i64 0, .int .i64 0, .int .i64 0, .int .i64 0, .int .i64 0, .int .i64 0, .int .i64 0] 53)).setRow W1.heap.size (tc FT).toArray).heap.size = W1.heap.size + 1 := by simp
  obtain ⟨W2, hW2⟩ : ∃ W2, (W1.alloc (.cells #[.int .i64 0, .int .i64 0, .int .i64 0, .int .i64 0, .int .i64 0, .int .i64 0, .int .i64 0, .int .i64 0, .int .i64 0, .int .i64 0, .int .i64 0, .int .i64 0, .int .i64 0, .int .i64 0, .int .i64 0, .int .i64 0] 53)).setRow W1.heap.size (tc FT).toArray = W2 := ⟨_, rfl⟩
  rw [hW2] at k2 kq2 kt2 hb2 hs2 ⊢
  obtain ⟨y, hy⟩ : ∃ y, W1.heap.size = y := ⟨_, rfl⟩
  rw [hy] at k2 hs2 hs1 ⊢
  have Hy1 := Lib.hid hs1
  clear hW2 oo hr0 kq1 kt lt1 lq1 hb1' hy hs1
  have c6' := kq2.cell 6
  have c40' := kq2.cell 40
  rw [c6] at c6'
  rw [c40] at c40'
  have lq2 := kq2.lt
  have Kq := Lib.hid kq2
  have Kt := Lib.hid kt2
  have K2 := Lib.hid k2
  have Hb2 := Lib.hid hb2
  clear kq2 kt2 k2 hb2 hs2
  go_quiet (fail)
  have KqN := Lib.hid (Kq.out.drewN nq)
  have KtN := Lib.hid (Kt.out.drewN nq)
  have K2N := Lib.hid (K2.out.drewN nq)
  have Hb2N := Lib.hid (below_drewN_ Hb2.out nq)
  obtain ⟨W3, hW3⟩ : ∃ W3, W2.drewN nq = W3 := ⟨_, rfl⟩
  rw [hW3] at KqN KtN K2N Hb2N ⊢
  clear hW3 c6' c40' lq2 Kq Kt K2 Hb2
  go_wp2_with fail
  go_loopw [6, 7, 27] (fun i6 b7 iv wr => ∃ (j : Nat), j ≤ k ∧ iv = .int .i64 j ∧ Hid (Blk wr q 108 (shc s (A, n, c) mp)) ∧ Hid (Blk wr g 53 #[.int .i64 0, .int .i64 0, .int .i64 0, .int .i64 0, .int .i64 0, .int .i64 0, .int .i64 0, .int .i64 0, .int .i64 0, .int .i64 0, .int .i64 0, .int .i64 0, .int .i64 0, .int .i64 0, .int .i64 0, .int .i64 0]) ∧ Hid (Blk wr y 53 (tc (tblF Ba FT (L.take j))).toArray) ∧ Hid (Below g w wr)) (fun _ _ iv _ => k - (intOf iv).toNat)
  case atStart => exact ⟨0, by omega, rfl, KqN, KtN, K2N, Hb2N⟩
  case round =>
    obtain ⟨j, hj, rfl, kq, kt, k2, hbw⟩ := hrel
    by_cases hlt : j < k
    · have hjl : j < L.length := by have := HLl.out; omega
      have htk : L.take (j + 1) = L.take j ++ [L[j]] := List.take_succ_eq_append_getElem hjl
      have hjt : (L.take j).length = j := by rw [List.length_take]; omega
      obtain ⟨b, o, A1, n1, c1, rfl, hbl, d0, d1, d2, hrd⟩ := (Hvt.out.below (Hg.out.symm ▸ hbw.out)).at_ j hlt
      have hone := HoL.out L[j] (List.getElem_mem hjl)
      obtain ⟨f, hf⟩ : ∃ f, L[j] = f := ⟨_, rfl⟩
      rw [hf] at htk d0 d1 hone
      obtain ⟨ra, rb, d⟩ := f
      simp only at d0 d1 d2 hone
      obtain ⟨x, rfl⟩ := Int.eq_ofNat_of_zero_le hone.1
      have hx8 : x < 8 := by omega
      obtain ⟨TT, hTT⟩ : ∃ TT, tblF Ba FT (L.take j) = TT := ⟨_, rfl⟩
      have hT8 : TT.length = 8 := by rw [← hTT, tblF_len]; exact hF8
      have htn : tblF Ba FT (L.take (j + 1)) = TT.set x (rb, Ba + (j : Int) + 1) := by rw [htk, tblF_snoc, hTT, hjt]; rfl
      rw [hTT] at k2
      have Htn := Lib.hid htn
      have hbw' : b < wr.heap.size := by have := hbw.out.size; have := Hg.out; omega
      have hj0 : (0 : Int) ≤ (j : Int) := by omega
      have hjk : (j : Int) < (k : Int) := by omega
      clear hrd htk hjt hone hf hTT htn hjl hbl
      go_upto_region 5 with (fail)
      have kz := Blk.new wr 27 #[.int .i64 x, .int .i64 rb, .slice A1 n1 c1]
      have lq := kq.out.lt
      have lt := kt.out.lt
      have l2 := k2.out.lt
      have hgw : g ≤ wr.heap.size := by have := hbw.out.size; have := Hg.out; omega
      have kqU := kq.out.alloc (.cells #[.int .i64 x, .int .i64 rb, .slice A1 n1 c1] 27)
      have ktU := kt.out.alloc (.cells #[.int .i64 x, .int .i64 rb, .slice A1 n1 c1] 27)
      have k2U := k2.out.alloc (.cells #[.int .i64 x, .int .i64 rb, .slice A1 n1 c1] 27)
      have hbU := hbw.out.alloc hgw (.cells #[.int .i64 x, .int .i64 rb, .slice A1 n1 c1] 27)
      obtain ⟨U, hU⟩ : ∃ U, wr.alloc (.cells #[.int .i64 x, .int .i64 rb, .slice A1 n1 c1] 27) = U := ⟨_, rfl⟩
      rw [hU] at kz kqU ktU k2U hbU ⊢
      obtain ⟨z, hz⟩ : ∃ z, wr.heap.size = z := ⟨_, rfl⟩
      rw [hz] at kz ⊢
      have hgy : g ≠ y := by have := Hy1.out; omega
      have hqy : q ≠ y := by have := Hy1.out; omega
      obtain ⟨t1, t2⟩ := tc_at TT x (by omega)
      obtain ⟨PP, hPP⟩ : ∃ PP, TT[x]'(by omega) = PP := ⟨_, rfl⟩
      rw [hPP] at t1 t2
      clear hPP
      have a0 := kz.cell 0
      have a1 := kz.cell 1
      have e0 := k2U.cell (x * 2)
      have e1 := k2U.cell (x * 2 + 1)
      rw [List.getElem?_toArray, t1] at e0
      rw [List.getElem?_toArray, t2] at e1
      have f0 := k2U.frozen (x * 2)
      have f1 := k2U.frozen (x * 2 + 1)
      have c6' := kqU.cell 6
      rw [c6] at c6'
      have lz := kz.lt
      have l2' := k2U.lt
      have lq' := kqU.lt
      have hx0 : (0 : Int) ≤ (x : Int) := by omega
      have hxI : (x : Int) < 8 := by omega
      have hw1 : IntKind.i64.wrap (Ba + (j : Int)) = Ba + (j : Int) := IntWalk.i64_in _ (by omega)
      have hw2 : IntKind.i64.wrap (Ba + (j : Int) + 1) = Ba + (j : Int) + 1 := IntWalk.i64_in _ (by omega)
      have KqU := Lib.hid kqU
      have KtU := Lib.hid ktU
      have K2U := Lib.hid k2U
      have HbU := Lib.hid hbU
      have HT8 := Lib.hid hT8
      have Hz := Lib.hid hz
      clear kq kt k2 hbw d0 d1 d2 hbw' lq lt l2 hU kqU ktU k2U hbU kz t1 t2 hz hT8
      go_still_tail 14, (by kernel_rfl)
      change wpList _ _ _ _ _ U.drew
      go_wp2_with fail
      have kn := ((K2U.out.drew).set_ (x * 2) (.int .i64 rb)).set_ (x * 2 + 1) (.int .i64 (Ba + (j : Int) + 1))
      have oo : Only U.drew ((U.drew.setCell ⟨y, x * 2, none⟩ (.int .i64 rb)).setCell ⟨y, x * 2 + 1, none⟩ (.int .i64 (Ba + (j : Int) + 1))) (fun k => k = y) := (Only.setSelf _ y _ _).trans (Only.setSelf _ y _ _)
      have kqn := KqU.out.drew.only oo hqy
      have ktn := KtU.out.drew.only oo hgy
      have hbn := (HbU.out.drew).trans (oo.below (B := g) (by have := HbU.out.size; have := Hg.out; show g ≤ U.heap.size; omega) (fun k hk => by have hk : k = y := hk; have := Hy1.out; omega))
      rw [show (((tc TT).toArray.setIfInBounds (x * 2) (Value.int IntKind.i64 rb)).setIfInBounds (x * 2 + 1) (Value.int IntKind.i64 (Ba + (j : Int) + 1))) = (tc (TT.set x (rb, Ba + (j : Int) + 1))).toArray by rw [List.setIfInBounds_toArray, List.setIfInBounds_toArray, tc_set], ← Htn.out] at kn
      go_roundw
      case rel => exact ⟨j + 1, by omega, by go_num, Lib.hid kqn, Lib.hid ktn, Lib.hid kn, Lib.hid hbn⟩
      case measure => simp [intOf]; omega
    · obtain rfl : j = k := by omega
      have k2 := k2.out
      rw [List.take_of_length_le (by have := HLl.out; omega)] at k2
      obtain ⟨TT, hTT⟩ : ∃ TT, tblF Ba FT L = TT := ⟨_, rfl⟩
      have hT8 : TT.length = 8 := by rw [← hTT, tblF_len]; exact hF8
      rw [hTT] at k2
      have kt' := kt.out
      have hsT : Hid ((tc TT).toArray.size = 16) := Lib.hid (by rw [List.size_toArray, tc_len, hT8])
      have hgw : g ≤ wr.heap.size := by have := hbw.out.size; have := Hg.out; omega
      go_wp2_with (first | (refine wpList_load_blk rfl _ (.tmp 5) rfl y rfl _ (tab_row k2 hT8) ?_) | (refine wpList_store_blk rfl _ (.tmp 4) (.tmp 47) rfl g (tc TT).toArray rfl rfl _ _ kt' (by rw [hsT.out]; exact tabS_info) (by rw [hsT.out]; rfl) (tc_ones _) ?_))
      exact row_end1 rfl rfl rfl (tab_row (kt'.row _) hT8) ⟨by rw [hTT], Hg.out.symm ▸ below_setRow hbw.out g _ (Nat.le_refl _)⟩
end Go.Proofs.Ytmnnaemcjmiplaa
