/- Contract of scrivref.Common: the length of the longest common part of two texts. diff.Of: the delta lies in a row of its own; a long text is refused. Histories, opened. -/
import Derived.Test.YtokngfinnieccaaMTopDiff1
import Derived.Deep.Cut
import Derived.Test.YtokngfinnieccaaW7
import Derived.Test.YtokngfinnieccaaW4
namespace Go.Proofs.Ytokngfinnieccaa
open Go.ChangeShapes Go.WideShapes Go.RowKit
set_option linter.unusedVariables false
set_option linter.unusedSimpArgs false
set_option maxRecDepth 100000
set_option maxHeartbeats 4000000
theorem ic_setD (C : List Int) (i : Nat) (u : Int) : (ic C).toArray.setIfInBounds i (.int .i64 u) = (ic (C.set i u)).toArray := by
  unfold ic
  simp [List.map_set]
/-- a row of the table, right up to k -/
def PRow (S T : List UInt8) (i m k : Nat) (R : List Int) : Prop := R.length = m + 1 ∧ ∀ j, j ≤ k → R.getD j 0 = (PL S T i j : Int)
theorem PRow.top (S T : List UInt8) (m : Nat) : PRow S T 0 m m (List.replicate (m + 1) 0) := ⟨by simp, fun j hj => by
  rw [PL_top, List.getD_eq_getElem?_getD, List.getElem?_replicate]
  split <;> rfl⟩
theorem PRow.new (S T : List UInt8) (i m : Nat) : PRow S T i m 0 (List.replicate (m + 1) 0) := ⟨by simp, fun j hj => by
  obtain rfl : j = 0 := by omega
  rw [PL_left, List.getD_eq_getElem?_getD, List.getElem?_replicate]
  split <;> rfl⟩
theorem PRow.set_ {S T : List UInt8} {i m k : Nat} {R : List Int} (h : PRow S T i m k R) (hk : k + 1 ≤ m) {v : Int} (hv : (PL S T i (k + 1) : Int) = v) : PRow S T i m (k + 1) (R.set (k + 1) v) := by
  have hl := h.1
  refine ⟨by rw [List.length_set]; exact hl, fun j hj => ?_⟩
  rw [List.getD_eq_getElem?_getD]
  by_cases hjk : j = k + 1
  · subst hjk
    rw [List.getElem?_set_self (by omega), hv]
    rfl
  · rw [List.getElem?_set_ne (Ne.symm hjk), ← List.getD_eq_getElem?_getD]
    exact h.2 j (by omega)
theorem PRow.at_ {S T : List UInt8} {i m k : Nat} {R : List Int} (h : PRow S T i m k R) {w : World} {g : Nat} (hb : Blk w g 3 (ic R).toArray) (j : Nat) (hj : j ≤ k) (hm : j ≤ m) : w.cell? ⟨g, j, none⟩ = some (.int .i64 (PL S T i j)) := by
  have hl := h.1
  rw [hb.cell j, List.getElem?_toArray, ic_at _ j (by omega)]
  have := h.2 j hj
  rw [List.getD_eq_getElem?_getD, List.getElem?_eq_getElem (by omega)] at this
  simp only [Option.getD_some] at this
  rw [this]
theorem st_facts {w0 wr : World} {B g gn : Nat} {R Nx : List Int} (HR : Blk wr g 3 (ic R).toArray) (HN : Blk wr gn 3 (ic Nx).toArray) (hne : g ≠ gn) (hB : B ≤ gn) (hW : Below B w0 wr) (hs : B ≤ wr.heap.size) (k : Nat) (v : Int) :
    Blk (wr.setCell ⟨gn, k, none⟩ (.int .i64 v)) g 3 (ic R).toArray ∧ Blk (wr.setCell ⟨gn, k, none⟩ (.int .i64 v)) gn 3 (ic (Nx.set k v)).toArray ∧ Below B w0 (wr.setCell ⟨gn, k, none⟩ (.int .i64 v)) ∧ B ≤ (wr.setCell ⟨gn, k, none⟩ (.int .i64 v)).heap.size := by
  refine ⟨HR.far hne _, ?_, hW.setCell (p := ⟨gn, k, none⟩) hB _, by simpa using hs⟩
  have := HN.set_ k (.int .i64 v)
  rw [ic_setD] at this
  exact this
theorem common_any (s t : ByteArray) (hs : (s.size : Int) ≤ 500) (ht : (t.size : Int) ≤ 500) (w : World) (C : Nat) (hC : lcs s.data.toList t.data.toList = C) :
    Calls Try.prog 19 #[.string s, .string t] w fun e w' => e = .returned (.int .i64 C) ∧ Below w.heap.size w w' := by
  obtain ⟨n, hn⟩ : ∃ n, s.size = n := ⟨_, rfl⟩
  obtain ⟨m, hm⟩ : ∃ m, t.size = m := ⟨_, rfl⟩
  have hn5 : (n : Int) ≤ 500 := by omega
  have hm5 : (m : Int) ≤ 500 := by omega
  have HM1 : Hid ((m : Int) + 1 = ((m + 1 : Nat) : Int)) := Lib.hid (by omega)
  obtain ⟨S, hS⟩ : ∃ S, s.data.toList = S := ⟨_, rfl⟩
  obtain ⟨T, hT⟩ : ∃ T, t.data.toList = T := ⟨_, rfl⟩
  have HSl : Hid (S.length = n) := Lib.hid (by rw [← hS]; exact hn)
  have HTl : Hid (T.length = m) := Lib.hid (by rw [← hT]; exact hm)
  have HC : Hid (PL S T n m = C) := Lib.hid (by rw [← HSl.out, ← HTl.out, PL_end, ← hS, ← hT]; exact hC)
  have HS := Lib.hid hS
  have HT := Lib.hid hT
  clear hs ht hS hT hC
  obtain ⟨i0, hi, hz0, hz1, hz2⟩ := info_parts Try.info_int
  have hw00 := Nat.le_refl w.heap.size
  go_enter Try.func19, Try.ntmps19
  go_wp2_with (first | (at_make; go_loud (refine wpList_make_full _ rfl (.tmp 11) (.tmp 11) 33 rfl w.heap.size 3 i0 _ 1 Try.underlying33 hi hz0 hz1 .i64 .i64 _ _ (m + 1) rfl rfl HM1.out HM1.out (by rw [hz2]; omega) (by simp only [maxLen]; omega) hw00 ?_)))
  intro w1 hown1 hgr1
  have hw1 : Below w.heap.size w w1 := below_grown hgr1 (Nat.le_refl _) (by simp)
  obtain ⟨B, hB⟩ : ∃ B, w.heap.size = B := ⟨_, rfl⟩
  have hnew := blk_own hown1
  rw [zrow] at hnew
  rw [hB] at hnew hw1 ⊢
  have HB0 : Hid (B ≤ w1.heap.size) := Lib.hid (by have := hnew.lt; omega)
  have HBw := Lib.hid hB
  have HR0 := Lib.hid hnew
  have HP0 := Lib.hid (PRow.top S T m)
  have HW0 := Lib.hid hw1
  clear hown1 hgr1 hw1 hnew hw00 hB
  go_wp2_with fail
  go_loopw [5, 6, 7, 8, 15] (fun rv x6 x7 x8 iv wr => ∃ (i g : Nat) (R : List Int), i ≤ n ∧ iv = .int .i64 i ∧ rv = .slice (some ⟨g, 0, none⟩) (m + 1) (m + 1) ∧ Hid (B ≤ g) ∧ Hid (Blk wr g 3 (ic R).toArray) ∧ Hid (PRow S T i m m R) ∧ Hid (Below B w wr) ∧ Hid (B ≤ wr.heap.size)) (fun _ _ _ _ iv _ => n - (intOf iv).toNat)
  case atStart => exact ⟨0, B, _, by omega, rfl, rfl, Lib.hid (Nat.le_refl _), HR0, HP0, HW0, HB0⟩
  case round =>
    clear HR0 HP0 HW0 HB0
    obtain ⟨i, g, R, hi1, rfl, rfl, HG, HR, HP, HW, HB⟩ := hrel
    have hlg := HR.out.lt
    by_cases hlt : i < n
    · have hi00 : (0 : Int) ≤ (i : Int) := by omega
      have hin : (i : Int) < (n : Int) := by omega
      have hle := Nat.le_refl wr.heap.size
      go_wp2_with (first | (at_make; go_loud (refine wpList_make_full _ rfl (.tmp 20) (.tmp 20) 33 rfl wr.heap.size 3 i0 _ 1 Try.underlying33 hi hz0 hz1 .i64 .i64 _ _ (m + 1) rfl rfl HM1.out HM1.out (by rw [hz2]; omega) (by simp only [maxLen]; omega) hle ?_)))
      intro w4 hown4 hgr4
      have hnew := blk_own hown4
      rw [zrow] at hnew
      have HR4 := Lib.hid (HR.out.grown hgr4 (by simp))
      have HW4 := Lib.hid (HW.out.trans (below_grown hgr4 HB.out (by simp)))
      obtain ⟨gn, hgn⟩ : ∃ gn, wr.heap.size = gn := ⟨_, rfl⟩
      have hbg := HB.out
      rw [hgn] at hnew hlg hbg ⊢
      have HB4 : Hid (B ≤ w4.heap.size) := Lib.hid (by have := hnew.lt; omega)
      have HN4 := Lib.hid hnew
      have HQ4 := Lib.hid (PRow.new S T (i + 1) m)
      have HGN := Lib.hid hbg
      have HNE : Hid (g ≠ gn) := Lib.hid (by omega)
      clear hnew hown4 hgr4 hle HB HW HR hgn hlg hbg
      go_wp2_with fail
      go_loopw [8, 24] (fun x8 kv wr => ∃ (k : Nat) (Nx : List Int), k ≤ m ∧ kv = .int .i64 k ∧ Hid (Blk wr g 3 (ic R).toArray) ∧ Hid (Blk wr gn 3 (ic Nx).toArray) ∧ Hid (PRow S T (i + 1) m k Nx) ∧ Hid (Below B w wr) ∧ Hid (B ≤ wr.heap.size)) (fun _ kv _ => m - (intOf kv).toNat)
      case atStart => exact ⟨0, _, by omega, rfl, HR4, HN4, HQ4, HW4, HB4⟩
      case round =>
        clear HR4 HN4 HQ4 HW4 HB4
        obtain ⟨k, Nx, hk1, rfl, HR, HN, HQ, HW, HB⟩ := hrel
        by_cases hkt : k < m
        · have hk0 : (0 : Int) ≤ (k : Int) := by omega
          have hkm : (k : Int) < (m : Int) := by omega
          have hks : k < t.size := by omega
          have his : i < s.size := by omega
          have hil : i < S.length := by have := HSl.out; omega
          have hkl : k < T.length := by have := HTl.out; omega
          have eS : S[i]'hil = s[i] := by have := HS.out; subst this; rfl
          have eT : T[k]'hkl = t[k] := by have := HT.out; subst this; rfl
          have Heq := Lib.hid (fun h => @PL_eq S T i k hil hkl h)
          have Hne := Lib.hid (fun h => @PL_ne S T i k hil hkl h)
          rw [eS, eT] at Heq Hne
          have c1 := HQ.out.at_ HN.out k (Nat.le_refl _) (by omega)
          have c2 := HP.out.at_ HR.out (k + 1) (by omega) (by omega)
          have Hc3 := Lib.hid (HP.out.at_ HR.out k (by omega) (by omega))
          obtain ⟨old, hold⟩ : ∃ old, wr.cell? ⟨gn, k + 1, none⟩ = some (.int .i64 old) := ⟨_, by rw [HN.out.cell (k + 1), List.getElem?_toArray, ic_at _ (k + 1) (by have := HQ.out.1; omega)]⟩
          have f1 := HN.out.frozen (k + 1)
          have l1 := HN.out.lt
          have l2 := HR.out.lt
          have b1 := PL_le S T (i + 1) k
          have b2 := PL_le S T i (k + 1)
          have b3 := PL_le S T i k
          rw [HSl.out] at b1 b2 b3
          obtain ⟨za, hza⟩ : ∃ za, PL S T (i + 1) k = za := ⟨_, rfl⟩
          obtain ⟨zb, hzb⟩ : ∃ zb, PL S T i (k + 1) = zb := ⟨_, rfl⟩
          obtain ⟨zc, hzc⟩ : ∃ zc, PL S T i k = zc := ⟨_, rfl⟩
          rw [hza] at c1 b1 Hne
          rw [hzb] at c2 b2 Hne
          rw [hzc] at Hc3 b3 Heq
          clear hza hzb hzc eS eT
          have w2 : IntKind.i64.wrap ((k : Int) + 1) = (k : Int) + 1 := IntWalk.i64_in _ (by omega)
          have w3 : IntKind.i64.wrap ((zc : Int) + 1) = (zc : Int) + 1 := IntWalk.i64_in _ (by omega)
          have x2 : ((k : Int) + 1).toNat = k + 1 := by omega
          have y3 : (0 : Int) ≤ (k : Int) + 1 := by omega
          have y4 : (k : Int) + 1 < (m : Int) + 1 := by omega
          have y6 : (k : Int) < (m : Int) + 1 := by omega
          have hifm : (if za < zb then (zb : Int) else (za : Int)) = max (za : Int) (zb : Int) := by split <;> omega
          have Hifm := Lib.hid hifm
          clear hifm
          go_upto_region 9 with (fail)
          go_region
          try rw [Hifm.out]
          have hst := st_facts HR.out HN.out HNE.out HGN.out HW.out HB.out (k + 1) (max (za : Int) (zb : Int))
          obtain ⟨U, hU⟩ : ∃ U, (wr.setCell ⟨gn, k + 1, none⟩ (.int .i64 (max (za : Int) (zb : Int)))).drew = U := ⟨_, rfl⟩
          rw [hU]
          have HRU : Hid (Blk U g 3 (ic R).toArray) := Lib.hid (by rw [← hU]; exact hst.1)
          have HNU : Hid (Blk U gn 3 (ic (Nx.set (k + 1) (max (za : Int) (zb : Int)))).toArray) := Lib.hid (by rw [← hU]; exact hst.2.1)
          have HWU : Hid (Below B w U) := Lib.hid (by rw [← hU]; exact ⟨hst.2.2.1.os, hst.2.2.1.tape, hst.2.2.1.output, hst.2.2.1.size, hst.2.2.1.block⟩)
          have HBU : Hid (B ≤ U.heap.size) := Lib.hid (by rw [← hU]; exact hst.2.2.2)
          have hmx : ((max za zb : Nat) : Int) = max (za : Int) (zb : Int) := by omega
          have hQl := HQ.out.1
          obtain ⟨mx, hmxe⟩ : ∃ mx : Int, (max (za : Int) (zb : Int)) = mx := ⟨_, rfl⟩
          rw [hmxe] at HNU hmx ⊢
          have Hmx := Lib.hid hmx
          have c3 := Hc3.out
          clear hst hU c1 c2 c3 f1 l1 l2 hold hmx hmxe
          have c3 : U.cell? ⟨g, k, none⟩ = some (.int .i64 zc) := by rw [HRU.out.cell k, ← HR.out.cell k]; exact Hc3.out
          have c4 : U.cell? ⟨gn, k + 1, none⟩ = some (.int .i64 mx) := by
            rw [HNU.out.cell (k + 1), List.getElem?_toArray, ic_at _ (k + 1) (by rw [List.length_set]; omega), List.getElem_set_self]
          have f1 := HNU.out.frozen (k + 1)
          have l1 := HNU.out.lt
          have l2 := HRU.out.lt
          clear Hc3
          by_cases hx : s[i] = t[k]
          · have hb : ((s[i].toNat : Int) == (t[k].toNat : Int)) = true := by rw [hx]; simp
            have hv := Heq.out hx
            have HQ2 : Hid (PRow S T (i + 1) m (k + 1) ((Nx.set (k + 1) mx).set (k + 1) ((zc : Int) + 1))) := Lib.hid (by
              rw [List.set_set]
              exact HQ.out.set_ (by omega) (by rw [hv]; omega))
            have hst2 := st_facts HRU.out HNU.out HNE.out HGN.out HWU.out HBU.out (k + 1) ((zc : Int) + 1)
            have Hst := Lib.hid hst2
            clear Heq Hne hx hv HQ hst2 HR HN HW HB
            go_wp2_with fail
            go_quiet (fail)
            go_wp2_with fail
            go_roundw
            case rel => exact ⟨k + 1, _, by omega, by go_num, Lib.hid Hst.out.1, Lib.hid Hst.out.2.1, HQ2, Lib.hid ⟨Hst.out.2.2.1.os, Hst.out.2.2.1.tape, Hst.out.2.2.1.output, Hst.out.2.2.1.size, Hst.out.2.2.1.block⟩, Lib.hid Hst.out.2.2.2⟩
            case measure => simp [intOf]; omega
          · have hb : ((s[i].toNat : Int) == (t[k].toNat : Int)) = false := by
              have : s[i].toNat ≠ t[k].toNat := fun h => hx (UInt8.toNat_inj.1 h)
              simp; omega
            have hv := Hne.out hx
            have HQ2 : Hid (PRow S T (i + 1) m (k + 1) (Nx.set (k + 1) mx)) := Lib.hid (HQ.out.set_ (by omega) (by rw [hv]; exact Hmx.out))
            clear Heq Hne hx hv HQ HR HN HW HB
            go_wp2_with fail
            go_quiet (fail)
            go_wp2_with fail
            go_roundw
            case rel => exact ⟨k + 1, _, by omega, by go_num, Lib.hid HRU.out, Lib.hid HNU.out, HQ2, Lib.hid ⟨HWU.out.os, HWU.out.tape, HWU.out.output, HWU.out.size, HWU.out.block⟩, Lib.hid HBU.out⟩
            case measure => simp [intOf]; omega
        · obtain rfl : k = m := by omega
          go_wp2_with fail
          go_roundw
          case rel => exact ⟨i + 1, gn, Nx, by omega, by go_num, rfl, HGN, HN, HQ, HW, HB⟩
          case measure => simp [intOf]; omega
    · obtain rfl : i = n := by omega
      have c1 := HP.out.at_ HR.out m (Nat.le_refl _) (Nat.le_refl _)
      rw [HC.out] at c1
      have hm1 : (m : Int) < (m : Int) + 1 := by omega
      go_wp2_with fail
      go_ret
      exact ⟨rfl, HBw.out ▸ HW.out⟩
end Go.Proofs.Ytokngfinnieccaa
namespace Go.Proofs.Ytokngfinnieccaa
open Go.ChangeShapes Go.WideShapes Go.RowKit
set_option linter.unusedVariables false
set_option linter.unusedSimpArgs false
set_option maxRecDepth 100000
set_option maxHeartbeats 4000000
theorem diff_own (s t : ByteArray) (hs : (s.size : Int) ≤ 500) (ht : (t.size : Int) ≤ 500) (w : World) :
    Calls Try.prog 16 #[.string s, .string t] w fun e w' => ∃ A n c, e = .returned (.tuple #[.slice A n c, .int .i64 0]) ∧ OwnP w' w.heap.size (.slice A n c) (grp (cz (trc s.data.toList t.data.toList))) ∧ (∀ p ∈ grp (cz (trc s.data.toList t.data.toList)), p.2.2.size ≤ 140737488351232) ∧ Below w.heap.size w w' := by
  obtain ⟨n, hn⟩ : ∃ n, s.size = n := ⟨_, rfl⟩
  obtain ⟨m, hm⟩ : ∃ m, t.size = m := ⟨_, rfl⟩
  have hn5 : (n : Int) ≤ 500 := by omega
  have hm5 : (m : Int) ≤ 500 := by omega
  have hN1 : (n : Int) + 1 = ((n + 1 : Nat) : Int) := by omega
  have hM1 : (m : Int) + 1 = ((m + 1 : Nat) : Int) := by omega
  have HN1 := Lib.hid hN1
  have HM1 := Lib.hid hM1
  clear hN1 hM1 hs ht
  obtain ⟨i0, hi, hz0, hz1, hz2⟩ := info_parts Try.info_int
  obtain ⟨j0, gi, gz0, gz1, gz2⟩ := info_parts Try.info_ints
  have hw00 := Nat.le_refl w.heap.size
  go_enter Try.func16, Try.ntmps16
  go_wp2_with (first | (at_make; go_loud (refine wpList_make_full _ rfl (.tmp 23) (.tmp 23) 39 rfl w.heap.size 33 j0 _ 1 Try.underlying39 gi gz0 gz1 .i64 .i64 _ _ (n + 1) rfl rfl HN1.out HN1.out (by rw [gz2]; omega) (by simp only [maxLen]; omega) hw00 ?_)))
  intro w1 hown1 hgr1
  have hw1 : Below w.heap.size w w1 := below_grown hgr1 (Nat.le_refl _) (by simp)
  obtain ⟨G, hG⟩ : ∃ G, w.heap.size = G := ⟨_, rfl⟩
  rw [hG] at hown1 ⊢
  have HD0 := Lib.hid (DT.new (m := m + 1) hown1)
  have HGe := Lib.hid hG
  have hwG : w.heap.size ≤ G := by omega
  clear hown1 hgr1 gi gz0 gz1 gz2 hG hw00
  go_wp2_with fail
  go_loopw [7, 27] (fun iv jv wr => ∃ (i : Nat) (gs : List Nat), i ≤ n + 1 ∧ jv = .int .i64 i ∧ gs.length = i ∧ Hid (DT wr G (m + 1) gs (List.replicate i (List.replicate (m + 1) 0)) (n + 1)) ∧ Below G w wr) (fun _ j _ => n + 1 - (intOf j).toNat)
  case atStart => exact ⟨0, [], by omega, rfl, rfl, HD0, by rw [← HGe.out]; exact hw1⟩
  case round =>
    obtain ⟨i, gs, hi1, rfl, hgl, hdt, hbw⟩ := hrel
    by_cases hlt : i < n + 1
    · have hcell : wr.cell? ⟨G, i, none⟩ = some (.slice none 0 0) := by
        rw [hdt.out.2.2.1.cell i, List.getElem?_toArray, List.getElem?_append_right (by simp [hgl]), List.getElem?_replicate]
        simp [hgl]; omega
      have hGl := hdt.out.2.2.1.lt
      have hbk := hdt.out.2.2.1
      have Hbk := Lib.hid hbk
      have hi00 : (0 : Int) ≤ (i : Int) := by omega
      have hin : (i : Int) < (n : Int) + 1 := by omega
      have hle := Nat.le_refl wr.heap.size
      have Hcell := Lib.hid hcell
      clear hbk hcell
      go_wp2_with (first | (at_make; go_loud (refine wpList_make_full _ rfl (.tmp 34) (.tmp 34) 33 rfl wr.heap.size 3 i0 _ 1 Try.underlying33 hi hz0 hz1 .i64 .i64 _ _ (m + 1) rfl rfl HM1.out HM1.out (by rw [hz2]; omega) (by simp only [maxLen]; omega) hle ?_; intro w4 hown4 hgr4; have cG := ((Hbk.out.grown hgr4 (by simp)).cell i).trans ((Hbk.out.cell i).symm.trans Hcell.out); have fG := (Hbk.out.grown hgr4 (by simp)).frozen i; have lG := (Hbk.out.grown hgr4 (by simp)).lt)))
      have hnew := blk_own hown4
      rw [zrow2] at hnew
      have hpush := DT.push hdt.out (by omega) hgr4 hnew rfl
      rw [hgl] at hpush
      have hbG : Below G w w4 := hbw.trans (below_grown hgr4 (by have := hbw.size; omega) (by simp))
      have hrep : List.replicate i (List.replicate (m + 1) (0 : Int)) ++ [List.replicate (m + 1) 0] = List.replicate (i + 1) (List.replicate (m + 1) 0) := List.replicate_succ'.symm
      rw [hrep] at hpush
      have Hpush := Lib.hid hpush
      have hGG := Nat.le_refl G
      clear hnew hpush hown4 hgr4 hrep
      go_roundw
      case rel => exact ⟨i + 1, gs ++ [wr.heap.size], by omega, by go_num, by simp [hgl], Hpush, hbG.setCell (p := ⟨G, i, none⟩) hGG _⟩
      case measure => simp [intOf]; omega
    · have hin : decide (i < n + 1) = false := by simpa using hlt
      obtain rfl : i = n + 1 := by omega
      rw [← HN1.out]
      have Hfull : Hid (full (List.replicate (n + 1) (List.replicate (m + 1) (0 : Int))) n m) := Lib.hid ⟨by simp, fun r h => by simp⟩
      obtain ⟨S, hS⟩ : ∃ S, s.data.toList = S := ⟨_, rfl⟩
      obtain ⟨T, hT⟩ : ∃ T, t.data.toList = T := ⟨_, rfl⟩
      have hSl : S.length = n := by rw [← hS]; exact hn
      have hTl : T.length = m := by rw [← hT]; exact hm
      have Hz : Hid (∀ r c, r ≤ n → c ≤ m → (n ≤ r ∨ c = m) → gt (List.replicate (n + 1) (List.replicate (m + 1) (0 : Int))) r c = FT S T r c) := Lib.hid fun r c hr hc h => by
        rw [gt_zero, FT_end S T r c (by omega)]
      have HS := Lib.hid hS
      have HT := Lib.hid hT
      have HSl := Lib.hid hSl
      have HTl := Lib.hid hTl
      clear hS hT hSl hTl
      go_wp2_with fail
      go_loopw [8, 9] (fun iv kv wr => ∃ (I : Nat) (rows : List (List Int)), I ≤ n ∧ iv = .int .i64 ((I : Int) - 1) ∧ Hid (DT wr G (m + 1) gs rows (n + 1)) ∧ Hid (full rows n m) ∧ Hid (∀ r c, r ≤ n → c ≤ m → (I ≤ r ∨ c = m) → gt rows r c = FT S T r c) ∧ Below G w wr) (fun iv _ _ => ((intOf iv) + 1).toNat)
      case atStart => exact ⟨n, _, Nat.le_refl _, rfl, hdt, Hfull, Hz, hbw⟩
      case round =>
        obtain ⟨I, rows, hI, rfl, hdt2, hfu, htb, hbw2⟩ := hrel
        by_cases hI0 : I = 0
        · subst hI0
          rw [show (((0 : Nat) : Int)) - 1 = -1 from rfl]
          have hm0 := Mk.fresh wr (.cells #[.slice none 0 0, .string ⟨#[]⟩, .int .i64 0] 105)
          have hb0 := (Below.refl wr.heap.size wr).alloc (Nat.le_refl _) (.cells #[.slice none 0 0, .string ⟨#[]⟩, .int .i64 0] 105)
          have hX5 : (trc S T).length ≤ 1000 := by have h1 := trc_len _ S T (Nat.le_refl _); have := HSl.out; have := HTl.out; omega
          obtain ⟨X, hX⟩ : ∃ X, trc S T = X := ⟨_, rfl⟩
          have Hst0 : Hid (([] : List U) ++ trc (S.drop 0) (T.drop 0) = X) := Lib.hid hX
          have HXc := Lib.hid (trc_chk (S := S) (T := T) (by have := HSl.out; omega) (by have := HTl.out; omega))
          rw [hX] at hX5 HXc
          have HXe := Lib.hid hX
          have hwB := hbw2
          have Hm0 := Lib.hid hm0
          obtain ⟨WB, rfl⟩ : ∃ WB, WB = wr := ⟨_, rfl⟩
          have Hdt := hdt2
          have hgB := Nat.le_refl WB.heap.size
          clear hm0 hX hdt2 hbw2
          go_wp2_with fail
          go_loopw [11, 12] (fun iv kv wr => ∃ (i k : Nat) (told : List U) (ob : Option Nat), i ≤ n ∧ k ≤ m ∧ iv = .int .i64 i ∧ kv = .int .i64 k ∧ told.length ≤ 1000 ∧ Hid (Mk wr WB.heap.size WB.heap.size ob told) ∧ Hid (told ++ trc (S.drop i) (T.drop k) = X) ∧ Below WB.heap.size WB wr) (fun iv kv _ => n - (intOf iv).toNat + (m - (intOf kv).toNat))
          case atStart => exact ⟨0, 0, [], none, by omega, by omega, rfl, rfl, by simp, Hm0, Hst0, hb0⟩
          case round =>
            obtain ⟨i, k, told, ob, hi9, hk9, rfl, rfl, htl, hmk, hst, hbB⟩ := hrel
            by_cases hin3 : i < n
            · by_cases hkm3 : k < m
              · have hi0 : (0 : Int) ≤ (i : Int) := by omega
                have hin2 : (i : Int) < (n : Int) := by omega
                have hk0 : (0 : Int) ≤ (k : Int) := by omega
                have hkm : (k : Int) < (m : Int) := by omega
                have hks : k < t.size := by omega
                have his : i < s.size := by omega
                have hil : i < S.length := by have := HSl.out; omega
                have hkl : k < T.length := by have := HTl.out; omega
                have eS : S[i]'hil = s[i] := by have := HS.out; subst this; rfl
                have eT : T[k]'hkl = t[k] := by have := HT.out; subst this; rfl
                have hDT := Hdt.out.below (Nat.le_refl _) hbB
                have hrl := hfu.out.1
                have hgl2 := hDT.1
                have hi1 : i < rows.length := by omega
                have hi2 : i + 1 < rows.length := by omega
                have hr1 := hfu.out.2 i hi1
                have hr2 := hfu.out.2 (i + 1) hi2
                have hg1 : i < gs.length := by omega
                have hg2 : i + 1 < gs.length := by omega
                have c1 := hDT.cellG i hg1
                have c2 := hDT.cellG (i + 1) hg2
                have c5 := hDT.cell (i + 1) k hg2 hi2 (by omega)
                have c6 := hDT.cell i (k + 1) hg1 hi1 (by omega)
                rw [← gt_at hi2 (by omega), htb.out (i + 1) k (by omega) (by omega) (by omega)] at c5
                rw [← gt_at hi1 (by omega), htb.out i (k + 1) (by omega) (by omega) (by omega)] at c6
                have E1 := Lib.hid (fun h => @st_eq S T i k hil hkl h)
                have E2 := Lib.hid (fun h => @st_cut S T i k hil hkl h)
                have E3 := Lib.hid (fun h => @st_put S T i k hil hkl h)
                obtain ⟨ga, hga⟩ : ∃ ga, gs[i] = ga := ⟨_, rfl⟩
                obtain ⟨gb, hgb⟩ : ∃ gb, gs[i + 1] = gb := ⟨_, rfl⟩
                rw [hga] at c1 c6
                rw [hgb] at c2 c5
                generalize FT S T (i + 1) k = z2 at *
                generalize FT S T i (k + 1) = z3 at *
                rw [eS, eT] at E1 E2 E3
                have hB0 := hbB.size
                have hge := hmk.out.ge
                clear hr1 hr2 hrl hgl2 hi2 hg2 hga hgb eS eT hDT
                have w1 : IntKind.i64.wrap ((i : Int) + 1) = (i : Int) + 1 := IntWalk.i64_in _ (by omega)
                have w2 : IntKind.i64.wrap ((k : Int) + 1) = (k : Int) + 1 := IntWalk.i64_in _ (by omega)
                have x1 : ((i : Int) + 1).toNat = i + 1 := by omega
                have x2 : ((k : Int) + 1).toNat = k + 1 := by omega
                have y1 : (0 : Int) ≤ (i : Int) + 1 := by omega
                have y2 : (i : Int) + 1 < (n : Int) + 1 := by omega
                have y3 : (0 : Int) ≤ (k : Int) + 1 := by omega
                have y4 : (k : Int) + 1 < (m : Int) + 1 := by omega
                have y5 : (i : Int) < (n : Int) + 1 := by omega
                have y6 : (k : Int) < (m : Int) + 1 := by omega
                by_cases hx : s[i] = t[k]
                · have hb : ((s[i].toNat : Int) == (t[k].toNat : Int)) = true := by rw [hx]; simp
                  have Hnx : Hid ((told ++ ku 1) ++ trc (S.drop (i + 1)) (T.drop (k + 1)) = X) := Lib.hid (by have := hst.out; rw [E1.out hx] at this; rw [List.append_assoc]; exact this)
                  have hl1 : (told ++ ku 1).length ≤ 1000 := by have := congrArg List.length Hnx.out; rw [List.length_append] at this; omega
                  clear E1 E2 E3 hx hst c1 c2 c5 c6
                  go_wp2_with fail
                  go_quiet (fail)
                  go_wp2_with fail
                  refine (mkeep_any 1 (Mk.dn hmk.out _) (by omega) hB0 (by omega) (by omega)).mono ?_
                  rintro e w2 ⟨rfl, ob2, hm4, hf4⟩
                  have hw2 := (below_dn hbB _).trans (hf4.below_ hB0 hgB fun q hq => (hge q hq).1)
                  have Hm4 := Lib.hid hm4
                  clear hm4 hf4 hmk hge
                  go_wp2_with fail
                  go_roundw
                  case rel => exact ⟨i + 1, k + 1, told ++ ku 1, ob2, by omega, by omega, by go_num, by go_num, hl1, Hm4, Hnx, hw2⟩
                  case measure => simp [intOf]; omega
                · have hb : ((s[i].toNat : Int) == (t[k].toNat : Int)) = false := by
                    have : s[i].toNat ≠ t[k].toNat := fun h => hx (UInt8.toNat_inj.1 h)
                    simp; omega
                  by_cases hz : z3 ≤ z2
                  · have Hnx : Hid ((told ++ cu 1) ++ trc (S.drop (i + 1)) (T.drop k) = X) := Lib.hid (by have := hst.out; rw [E2.out hx hz] at this; rw [List.append_assoc]; exact this)
                    have hl1 : (told ++ cu 1).length ≤ 1000 := by have := congrArg List.length Hnx.out; rw [List.length_append] at this; omega
                    clear E1 E2 E3 hx hst
                    go_wp2_with fail
                    go_quiet (fail)
                    go_wp2_with fail
                    go_quiet (fail)
                    go_wp2_with fail
                    refine (mcut_any 1 (Mk.dn hmk.out _) (by omega) (by omega) (by omega)).mono ?_
                    rintro e w2 ⟨rfl, hm4, hf4⟩
                    have hw2 := (below_dn hbB _).trans (MFr.below_ (ob' := ob) ⟨hf4, .inl rfl⟩ hB0 hgB fun q hq => (hge q hq).1)
                    have Hm4 := Lib.hid hm4
                    clear hm4 hf4 hmk hge c1 c2 c5 c6
                    go_wp2_with fail
                    go_roundw
                    case rel => exact ⟨i + 1, k, told ++ cu 1, ob, by omega, by omega, by go_num, rfl, hl1, Hm4, Hnx, hw2⟩
                    case measure => simp [intOf]; omega
                  · have hzd : decide (z3 ≤ z2) = false := by simpa using hz
                    have Hnx : Hid ((told ++ pu (t.extract k (k + 1))) ++ trc (S.drop i) (T.drop (k + 1)) = X) := Lib.hid (by have := hst.out; rw [E3.out hx hz] at this; rw [ext_one hks, List.append_assoc]; exact this)
                    have hl1 : (told ++ pu (t.extract k (k + 1))).length ≤ 1000 := by have := congrArg List.length Hnx.out; rw [List.length_append] at this; omega
                    have hks1 : (k : Int) + 1 ≤ (m : Int) := by omega
                    have hez : (t.extract k (k + 1)).size ≤ 100000000 := by rw [← pu_len]; rw [List.length_append] at hl1; omega
                    clear E1 E2 E3 hx hst hz
                    go_wp2_with fail
                    go_quiet (fail)
                    go_wp2_with fail
                    go_quiet (fail)
                    go_wp2_with fail
                    refine (mput_any (t.extract k (k + 1)) (Mk.dn hmk.out _) (by omega) hez).mono ?_
                    rintro e w2 ⟨rfl, hm4, hf4⟩
                    have hw2 := (below_dn hbB _).trans (MFr.below_ (ob' := ob) ⟨hf4, .inl rfl⟩ hB0 hgB fun q hq => (hge q hq).1)
                    have Hm4 := Lib.hid hm4
                    clear hm4 hf4 hmk hge c1 c2 c5 c6
                    go_wp2_with fail
                    go_roundw
                    case rel => exact ⟨i, k + 1, told ++ pu (t.extract k (k + 1)), ob, by omega, by omega, rfl, by go_num, hl1, Hm4, Hnx, hw2⟩
                    case measure => simp [intOf]; omega
              · have hkmd : decide (k < m) = false := by simpa using hkm3
                have hin2 : (i : Int) < (n : Int) := by omega
                have hD : Hid (told ++ cu ((n : Int) - (i : Int)) ++ pu (t.extract k m) = X) := Lib.hid (by
                  have h1 := hst.out
                  rw [st_end (by have := HSl.out; have := HTl.out; omega)] at h1
                  have h2 : cu ((n : Int) - (i : Int)) = List.replicate (S.length - i) (some none) := by
                    rw [show (n : Int) - (i : Int) = ((S.length - i : Nat) : Int) by have := HSl.out; omega, cu_nat]
                  rw [h2, ext_rest hm, HT.out, List.append_assoc]
                  exact h1)
                have hl1 : (told ++ cu ((n : Int) - (i : Int))).length ≤ 1000 := by have := congrArg List.length hD.out; rw [List.length_append] at this; omega
                have hez : (t.extract k m).size ≤ 100000000 := by rw [← pu_len]; have := congrArg List.length hD.out; rw [List.length_append] at this; omega
                have hi0 : (0 : Int) ≤ (i : Int) := by omega
                have hk0 : (0 : Int) ≤ (k : Int) := by omega
                have hin9 : (i : Int) ≤ (n : Int) := by omega
                have hkm9 : (k : Int) ≤ (m : Int) := by omega
                have hB0 := hbB.size
                have hge := hmk.out.ge
                clear hst
                go_wp2_with fail
                refine (mcut_any ((n : Int) - (i : Int)) hmk.out (by omega) (by omega) (by omega)).mono ?_
                rintro e w2 ⟨rfl, hm4, hf4⟩
                have hw2 := hbB.trans (MFr.below_ (ob' := ob) ⟨hf4, .inl rfl⟩ hB0 hgB fun q hq => (hge q hq).1)
                have Hm4 := Lib.hid hm4
                clear hm4 hf4 hmk hge
                have hB2 := hw2.size
                have hge := Hm4.out.ge
                go_wp2_with fail
                refine (mput_any (t.extract k m) Hm4.out (by omega) hez).mono ?_
                rintro e w3 ⟨rfl, hm5, hf5⟩
                have hw3 := hw2.trans (MFr.below_ (ob' := ob) ⟨hf5, .inl rfl⟩ hB2 hgB fun q hq => (hge q hq).1)
                rw [hD.out] at hm5
                have Hm5 := Lib.hid hm5
                clear hm5 hf5 hge
                have hB3 := hw3.size
                have hge := Hm5.out.ge
                go_wp2_with fail
                refine (mdone_any Hm5.out (by omega) hB3).mono ?_
                rintro e w4 ⟨v, ob2, rfl, ho, _, hf⟩
                have hw4 := hw3.trans (hf.below_ hB3 hgB fun q hq => (hge q hq).1)
                have hsm : ∀ p ∈ grp (cz X), p.2.2.size ≤ 140737488351232 := fun p hp => by
                  have := ((fitE_zero _).1 ((chk_parts HXc.out.1).2.2.2.2.2 p hp)).2.2
                  omega
                obtain ⟨A5, c5, rfl, hr⟩ := ho.rd hsm
                have Ho : Hid (OwnP w4 w.heap.size (.slice A5 (grp (cz X)).length c5) (grp (cz X))) := Lib.hid (own_base ho (hwB.mono hwG).size)
                have Hsm := Lib.hid hsm
                have hwG2 : Below w.heap.size w WB := hwB.mono hwG
                have hwf := hwG2.trans (hw4.mono hwG2.size)
                clear ho hf hge hr hsm
                go_wp2_with fail
                go_ret2
                exact ⟨_, _, _, rfl, by rw [HS.out, HT.out, HXe.out]; exact Ho.out, by rw [HS.out, HT.out, HXe.out]; exact Hsm.out, hwf⟩
            · have hind : decide (i < n) = false := by simpa using hin3
              have hD : Hid (told ++ cu ((n : Int) - (i : Int)) ++ pu (t.extract k m) = X) := Lib.hid (by
                have h1 := hst.out
                rw [st_end (by have := HSl.out; have := HTl.out; omega)] at h1
                have h2 : cu ((n : Int) - (i : Int)) = List.replicate (S.length - i) (some none) := by
                  rw [show (n : Int) - (i : Int) = ((S.length - i : Nat) : Int) by have := HSl.out; omega, cu_nat]
                rw [h2, ext_rest hm, HT.out, List.append_assoc]
                exact h1)
              have hl1 : (told ++ cu ((n : Int) - (i : Int))).length ≤ 1000 := by have := congrArg List.length hD.out; rw [List.length_append] at this; omega
              have hez : (t.extract k m).size ≤ 100000000 := by rw [← pu_len]; have := congrArg List.length hD.out; rw [List.length_append] at this; omega
              have hi0 : (0 : Int) ≤ (i : Int) := by omega
              have hk0 : (0 : Int) ≤ (k : Int) := by omega
              have hin9 : (i : Int) ≤ (n : Int) := by omega
              have hkm9 : (k : Int) ≤ (m : Int) := by omega
              have hB0 := hbB.size
              have hge := hmk.out.ge
              clear hst
              go_wp2_with fail
              refine (mcut_any ((n : Int) - (i : Int)) hmk.out (by omega) (by omega) (by omega)).mono ?_
              rintro e w2 ⟨rfl, hm4, hf4⟩
              have hw2 := hbB.trans (MFr.below_ (ob' := ob) ⟨hf4, .inl rfl⟩ hB0 hgB fun q hq => (hge q hq).1)
              have Hm4 := Lib.hid hm4
              clear hm4 hf4 hmk hge
              have hB2 := hw2.size
              have hge := Hm4.out.ge
              go_wp2_with fail
              refine (mput_any (t.extract k m) Hm4.out (by omega) hez).mono ?_
              rintro e w3 ⟨rfl, hm5, hf5⟩
              have hw3 := hw2.trans (MFr.below_ (ob' := ob) ⟨hf5, .inl rfl⟩ hB2 hgB fun q hq => (hge q hq).1)
              rw [hD.out] at hm5
              have Hm5 := Lib.hid hm5
              clear hm5 hf5 hge
              have hB3 := hw3.size
              have hge := Hm5.out.ge
              go_wp2_with fail
              refine (mdone_any Hm5.out (by omega) hB3).mono ?_
              rintro e w4 ⟨v, ob2, rfl, ho, _, hf⟩
              have hw4 := hw3.trans (hf.below_ hB3 hgB fun q hq => (hge q hq).1)
              have hsm : ∀ p ∈ grp (cz X), p.2.2.size ≤ 140737488351232 := fun p hp => by
                have := ((fitE_zero _).1 ((chk_parts HXc.out.1).2.2.2.2.2 p hp)).2.2
                omega
              obtain ⟨A5, c5, rfl, hr⟩ := ho.rd hsm
              have Ho : Hid (OwnP w4 w.heap.size (.slice A5 (grp (cz X)).length c5) (grp (cz X))) := Lib.hid (own_base ho (hwB.mono hwG).size)
              have Hsm := Lib.hid hsm
              have hwG2 : Below w.heap.size w WB := hwB.mono hwG
              have hwf := hwG2.trans (hw4.mono hwG2.size)
              clear ho hf hge hr hsm
              go_wp2_with fail
              go_ret2
              exact ⟨_, _, _, rfl, by rw [HS.out, HT.out, HXe.out]; exact Ho.out, by rw [HS.out, HT.out, HXe.out]; exact Hsm.out, hwf⟩
        · obtain ⟨i, rfl⟩ : ∃ i, I = i + 1 := ⟨I - 1, by omega⟩
          rw [show (((i + 1 : Nat) : Int)) - 1 = (i : Int) by omega]
          have hi0 : (0 : Int) ≤ (i : Int) := by omega
          have hin2 : (i : Int) < (n : Int) := by omega
          go_wp2_with fail
          go_loopw [9] (fun kv wr => ∃ (K : Nat) (rows : List (List Int)), K ≤ m ∧ kv = .int .i64 ((K : Int) - 1) ∧ Hid (DT wr G (m + 1) gs rows (n + 1)) ∧ Hid (full rows n m) ∧ Hid (∀ r c, r ≤ n → c ≤ m → (i < r ∨ c = m ∨ (r = i ∧ K ≤ c)) → gt rows r c = FT S T r c) ∧ Below G w wr) (fun kv _ => ((intOf kv) + 1).toNat)
          case atStart => exact ⟨m, rows, Nat.le_refl _, rfl, hdt2, hfu, Lib.hid fun r c hr hc h => htb.out r c hr hc (by omega), hbw2⟩
          case round =>
            obtain ⟨K, rows, hK, rfl, hdt3, hfu3, htb3, hbw3⟩ := hrel
            by_cases hK0 : K = 0
            · subst hK0
              go_wp2_with fail
              go_roundw
              case rel => exact ⟨i, rows, by omega, rfl, hdt3, hfu3, Lib.hid fun r c hr hc h => htb3.out r c hr hc (by omega), hbw3⟩
              case measure => simp [intOf]
            · obtain ⟨k, rfl⟩ : ∃ k, K = k + 1 := ⟨K - 1, by omega⟩
              rw [show (((k + 1 : Nat) : Int)) - 1 = (k : Int) by omega]
              have hk0 : (0 : Int) ≤ (k : Int) := by omega
              have hkm : (k : Int) < (m : Int) := by omega
              have hks : k < t.size := by omega
              have his : i < s.size := by omega
              have hil : i < S.length := by have := HSl.out; omega
              have hkl : k < T.length := by have := HTl.out; omega
              have eS : S[i]'hil = s[i] := by have := HS.out; subst this; rfl
              have eT : T[k]'hkl = t[k] := by have := HT.out; subst this; rfl
              have hrl := hfu3.out.1
              have hi1 : i < rows.length := by omega
              have hi2 : i + 1 < rows.length := by omega
              have hr1 := hfu3.out.2 i hi1
              have hr2 := hfu3.out.2 (i + 1) hi2
              have hg1 : i < gs.length := by omega
              have hg2 : i + 1 < gs.length := by omega
              have c1 := hdt3.out.cellG i hg1
              have c2 := hdt3.out.cellG (i + 1) hg2
              have c3 := hdt3.out.cell (i + 1) (k + 1) hg2 hi2 (by omega)
              have c5 := hdt3.out.cell (i + 1) k hg2 hi2 (by omega)
              have c6 := hdt3.out.cell i (k + 1) hg1 hi1 (by omega)
              have c4 := hdt3.out.cell i k hg1 hi1 (by omega)
              have f4 := (hdt3.out.2.2.2.1 i hg1 hi1).frozen k
              have l1 := (hdt3.out.2.2.2.1 i hg1 hi1).lt
              have l2 := (hdt3.out.2.2.2.1 (i + 1) hg2 hi2).lt
              have l0 := hdt3.out.2.2.1.lt
              have hne : G ≤ gs[i] := by have := hdt3.out.2.2.2.2.2 _ (List.getElem_mem hg1); omega
              rw [← gt_at hi2 (by omega), htb3.out (i + 1) (k + 1) (by omega) (by omega) (by omega)] at c3
              rw [← gt_at hi2 (by omega), htb3.out (i + 1) k (by omega) (by omega) (by omega)] at c5
              rw [← gt_at hi1 (by omega), htb3.out i (k + 1) (by omega) (by omega) (by omega)] at c6
              have Hst : Hid (∀ (v : Int) (n' : Nat), FT S T i k = v → DT ((wr.drewN n').setCell ⟨gs[i], k, none⟩ (.int .i64 v)) G (m + 1) gs (rows.set i (rows[i].set k v)) (n + 1) ∧ full (rows.set i (rows[i].set k v)) n m ∧ (∀ r c, r ≤ n → c ≤ m → (i < r ∨ c = m ∨ (r = i ∧ k ≤ c)) → gt (rows.set i (rows[i].set k v)) r c = FT S T r c) ∧ Below G w ((wr.drewN n').setCell ⟨gs[i], k, none⟩ (.int .i64 v))) := Lib.hid fun v n' hv => by
                refine ⟨(hdt3.out.drewN n').set_ i k v hg1 hi1, full_set hfu3.out hi1, fun r c hr hc h => ?_, ?_⟩
                · rw [gt_set hfu3.out hi1 (by omega) r c hr hc]
                  split
                  · rename_i h2
                    obtain ⟨rfl, rfl⟩ := h2
                    exact hv.symm
                  · exact htb3.out r c hr hc (by omega)
                · exact Below.setCell (p := ⟨gs[i], k, none⟩) (show Below G w (wr.drewN n') from ⟨hbw3.os, hbw3.tape, hbw3.output, hbw3.size, hbw3.block⟩) hne _
              have b1 := FT_le S T (i + 1) (k + 1)
              have b2 := FT_le S T (i + 1) k
              have b3 := FT_le S T i (k + 1)
              have Heq := Lib.hid (fun h => @FT_eq S T i k hil hkl h)
              have Hne := Lib.hid (fun h => @FT_ne S T i k hil hkl h)
              obtain ⟨ga, hga⟩ : ∃ ga, gs[i] = ga := ⟨_, rfl⟩
              obtain ⟨gb, hgb⟩ : ∃ gb, gs[i + 1] = gb := ⟨_, rfl⟩
              rw [hga] at c1 c4 c6 f4 l1 hne Hst
              rw [hgb] at c2 c3 c5 l2
              rw [HSl.out] at b1 b2 b3
              generalize FT S T (i + 1) (k + 1) = z1 at *
              generalize FT S T (i + 1) k = z2 at *
              generalize FT S T i (k + 1) = z3 at *
              generalize FT S T i k = zz at *
              generalize rows[i][k] = old at *
              obtain ⟨b10, b11⟩ := b1
              obtain ⟨b20, b21⟩ := b2
              obtain ⟨b30, b31⟩ := b3
              rw [eS, eT] at Heq Hne
              clear hr1 hr2 hrl hi2 hg2 hga hgb eS eT hdt3 hfu3 htb3
              have w1 : IntKind.i64.wrap ((i : Int) + 1) = (i : Int) + 1 := IntWalk.i64_in _ (by omega)
              have w2 : IntKind.i64.wrap ((k : Int) + 1) = (k : Int) + 1 := IntWalk.i64_in _ (by omega)
              have w3 : IntKind.i64.wrap (1 + z1) = 1 + z1 := IntWalk.i64_in _ (by omega)
              have x1 : ((i : Int) + 1).toNat = i + 1 := by omega
              have x2 : ((k : Int) + 1).toNat = k + 1 := by omega
              have y1 : (0 : Int) ≤ (i : Int) + 1 := by omega
              have y2 : (i : Int) + 1 < (n : Int) + 1 := by omega
              have y3 : (0 : Int) ≤ (k : Int) + 1 := by omega
              have y4 : (k : Int) + 1 < (m : Int) + 1 := by omega
              have y5 : (i : Int) < (n : Int) + 1 := by omega
              have y6 : (k : Int) < (m : Int) + 1 := by omega
              by_cases hx : s[i] = t[k]
              · have hb : ((s[i].toNat : Int) == (t[k].toNat : Int)) = true := by rw [hx]; simp
                have hv := Heq.out hx
                have Hst1 := Lib.hid (fun n' => Hst.out (1 + z1) n' hv)
                clear Hst Heq Hne hv hx
                go_wp2_with fail
                go_quiet (fail)
                go_wp2_with fail
                go_region
                go_wp2_with fail
                go_roundw
                case rel => exact ⟨k, _, by omega, rfl, Lib.hid (Hst1.out _).1, Lib.hid (Hst1.out 0).2.1, Lib.hid (Hst1.out 0).2.2.1, (Hst1.out _).2.2.2⟩
                case measure => simp [intOf]
              · have hb : ((s[i].toNat : Int) == (t[k].toNat : Int)) = false := by
                  have : s[i].toNat ≠ t[k].toNat := fun h => hx (UInt8.toNat_inj.1 h)
                  simp; omega
                have hv := Hne.out hx
                have hmx : (if z2 < z3 then z3 else z2) = max z2 z3 := by split <;> omega
                have Hmx := Lib.hid hmx
                have Hst1 := Lib.hid (fun n' => Hst.out (max z2 z3) n' hv)
                clear Hst Heq Hne hv hx hmx
                go_wp2_with fail
                go_quiet (fail)
                go_wp2_with fail
                go_region
                try rw [Hmx.out]
                go_wp2_with fail
                go_roundw
                case rel => exact ⟨k, _, by omega, rfl, Lib.hid (Hst1.out _).1, Lib.hid (Hst1.out 0).2.1, Lib.hid (Hst1.out 0).2.2.1, (Hst1.out _).2.2.2⟩
                case measure => simp [intOf]
theorem diff_large (s t : ByteArray) (hs : (s.size : Int) ≤ 500) (ht : (500 : Int) < (t.size : Int)) (hm : (t.size : Int) ≤ 9223372036854775807) (w : World) :
    Calls Try.prog 16 #[.string s, .string t] w fun e w' => e = .returned (.tuple #[.slice none 0 0, .int .i64 2]) ∧ w = w' := by
  obtain ⟨n, hn⟩ : ∃ n, s.size = n := ⟨_, rfl⟩
  obtain ⟨m, hm⟩ : ∃ m, t.size = m := ⟨_, rfl⟩
  rw [hn] at hs
  rw [hm] at ht
  go_enter Try.func16, Try.ntmps16
  go_wp2_with fail
  go_ret2
  exact ⟨rfl, rfl⟩
end Go.Proofs.Ytokngfinnieccaa
namespace Go.Proofs.Ytokngfinnieccaa
open Go.ChangeShapes Go.WideShapes Go.RowKit Go.Joins Go.Deep
set_option linter.unusedVariables false
set_option linter.unusedSimpArgs false
set_option maxRecDepth 100000

section
variable {H : Type} {enc : TypeId × Value → H} {w : World} {base : Nat} {spare : Nat → Bool} {held : Bool}
end
end Go.Proofs.Ytokngfinnieccaa
