/- Contracts of apply.Fits, apply.Do. -/
import Derived.Test.YtfncpcmaplhojaaBuilder
import Derived.Test.YtfncpcmaplhojaaApplyLaw
namespace Go.Proofs.Ytfncpcmaplhojaa
open Go.ChangeShapes Go.WideShapes Go.RowKit
set_option linter.unusedVariables false
set_option linter.unusedSimpArgs false
set_option maxRecDepth 100000
set_option maxHeartbeats 4000000

theorem fits_any (l : List Pt) (A : Option Addr) (n c B : Nat) (m : Nat) (w : World) (h : RdP w B A n c l) (hB : B ≤ w.heap.size) :
    Calls Try.prog 60 #[.slice A n c, .int .i64 m] w fun e w' => e = .returned (.int .i64 (fitsE l m)) ∧ Below w.heap.size w w' := by
  have H := Lib.hid h
  clear h
  by_cases hk : chk l = 0
  · have Hk := Lib.hid hk
    by_cases hm : m = nI (units l)
    · have e : fitsE l m = 0 := by unfold fitsE; rw [if_neg (by omega), if_neg (by omega)]
      rw [e]
      have hc := psizes_good l A n c B w H.out hB hk
      rw [← hm] at hc
      have Hc := Lib.hid hc
      clear hc hk e hm
      go_enter Try.func60, Try.ntmps60
      go_wp2_with fail
      refine Hc.out.mono ?_
      rintro e w1 ⟨rfl, hb⟩
      go_wp2_with fail
      go_ret
      exact ⟨rfl, hb⟩
    · have e : fitsE l m = 4 := by unfold fitsE; rw [if_neg (by omega), if_pos (by omega)]
      rw [e]
      have hne : ((m : Int) != (nI (units l) : Int)) = true := by simp; omega
      clear hk e hm
      go_enter Try.func60, Try.ntmps60
      go_wp2_with fail
      refine (psizes_good l A n c B _ H.out hB Hk.out).mono ?_
      rintro e w1 ⟨rfl, hb⟩
      go_wp2_with fail
      go_ret
      exact ⟨rfl, hb⟩
  · have e : fitsE l m = chk l := by unfold fitsE; rw [if_pos hk]
    rw [e]
    have hne : ((chk l) != 0) = true := by simpa using hk
    have Hk := Lib.hid hk
    clear hk e
    go_enter Try.func60, Try.ntmps60
    go_wp2_with fail
    refine (psizes_err l A n c B _ H.out hB Hk.out).mono ?_
    rintro e w1 ⟨rfl, hb⟩
    go_wp2_with fail
    go_ret
    exact ⟨rfl, hb⟩
theorem do_any (l : List Pt) (A : Option Addr) (n c B : Nat) (s : ByteArray) (w : World) (h : RdP w B A n c l) (hB : B ≤ w.heap.size) (hs : s.size ≤ 9223372036854775807) :
    Calls Try.prog 22 #[.slice A n c, .string s] w fun e w' => e = .returned (.tuple #[.string (doS l s), .int .i64 (doE l s)]) ∧ Below w.heap.size w w' := by
  have H := Lib.hid h
  have hcall : ∀ w' , RdP w' B A n c l → B ≤ w'.heap.size → Calls Try.prog 60 #[.slice A n c, .int .i64 s.size] w' fun e w'' => e = .returned (.int .i64 (doE l s)) ∧ Below w'.heap.size w' w'' := fun w' h1 h2 => fits_any l A n c B s.size w' h1 h2
  have Hcall := Lib.hid hcall
  clear h hcall
  by_cases he : doE l s = 0
  · obtain ⟨hk, hn, hd, h5⟩ := do_chk he
    rw [he, hd]
    rw [he] at Hcall
    have HF := Lib.hid (chk_parts hk)
    have hn16 : (n : Int) ≤ 1600 := by have := HF.out.1; have := H.out.1; omega
    have hfin : (ap id (units l) s.data.toList).length ≤ 500 := by rw [ap_length id _ _ hn]; exact (chk_parts hk).2.2.2.2.1
    obtain ⟨R, hR⟩ : ∃ R, ap id (units l) s.data.toList = R := ⟨_, rfl⟩
    rw [hR] at hfin ⊢
    have Hfin := Lib.hid hfin
    have hst : ([] : List UInt8) ++ ap id (units l) s.data.toList = R ∧ nI (units l) = s.data.toList.length := ⟨hR, hn⟩
    clear hfin hR
    have Hst := Lib.hid hst
    clear hk hn hd hst he
    go_enter Try.func22, Try.ntmps22
    go_wp2_with fail
    refine (Hcall.out _ H.out hB).mono ?_
    rintro e w1 ⟨rfl, hb1⟩
    have hbb := hb1.alloc hb1.size (.cells #[.pointer none, .slice none 0 0] 114)
    have HBd := Lib.hid (Bd.fresh_ w1 (B := w.heap.size) hb1.size)
    have hsz := hb1.size
    clear hb1
    go_wp2_with fail
    obtain ⟨gb, hgb⟩ : ∃ g, g = w1.heap.size := ⟨_, rfl⟩
    rw [← hgb] at HBd ⊢
    clear hgb
    go_loopw [1, 9, 19] (fun sv pv i wr => ∃ (k : Nat) (acc : List UInt8) (r : ByteArray), k ≤ n ∧ i = .int .i64 k ∧ sv = .string r ∧ r.size ≤ 500 ∧ Hid (Bd wr w.heap.size gb acc) ∧ Hid (acc ++ ap id (units (l.drop k)) r.data.toList = R ∧ nI (units (l.drop k)) = r.data.toList.length) ∧ Below w.heap.size w wr) (fun _ _ i _ => n - (intOf i).toNat)
    case atStart => exact ⟨0, [], s, by omega, rfl, rfl, h5, HBd, Lib.hid (by rw [List.drop_zero]; exact Hst.out), hbb⟩
    case round =>
      obtain ⟨k, acc, r, hk, rfl, rfl, hr5, hbd, hst, hbw⟩ := hrel
      have Hgne : Hid (wr.heap.size ≠ gb) := Lib.hid (by rcases hbd.out with ⟨_, v, hh, _⟩ | ⟨_, v, hh, _⟩ <;> exact Nat.ne_of_gt (Blk.lt (t := 114) hh))
      have hacc : acc.length ≤ 500 := by
        have h1 := Hfin.out
        rw [← hst.out.1, List.length_append] at h1
        omega
      by_cases hlt : k < n
      · have hkl : k < l.length := by have := H.out.1; omega
        obtain ⟨g, o, rfl, hg, c0, c1, c2⟩ := (H.out.below (hbw.mono hB)).at_ k hlt
        have hbd2 := fit_bounds _ (HF.out.2.2.2.2.2 l[k] (List.getElem_mem hkl))
        have hdr : l.drop k = l[k] :: l.drop (k + 1) := List.drop_eq_getElem_cons hkl
        rw [hdr] at hst
        obtain ⟨p, hp⟩ : ∃ p, p = l[k] := ⟨_, rfl⟩
        rw [← hp] at hbd2 hst c0 c1 c2
        clear hp hdr
        obtain ⟨kd, m, t⟩ := p
        simp only at hbd2 c0 c1 c2
        have hk0 : (0 : Int) ≤ (k : Int) := by omega
        have hkn : (k : Int) < (n : Int) := by omega
        have hgl : g < wr.heap.size := by have := hbw.size; omega
        have hw1 := hbw.alloc hbw.size (.cells #[.int .i64 kd, .int .i64 m, .string t] 45)
        have hbd3 := Lib.hid (hbd.out.alloc (.cells #[.int .i64 kd, .int .i64 m, .string t] 45))
        have hpb := Blk.new wr 45 #[.int .i64 kd, .int .i64 m, .string t]
        have Hpb := Lib.hid hpb
        clear hpb
        rcases hbd2 with ⟨rfl | rfl, h1, h2, rfl⟩ | ⟨rfl, rfl, h1, h2⟩
        · obtain ⟨z, rfl⟩ := Int.eq_ofNat_of_zero_le (show 0 ≤ m by omega)
          obtain ⟨q1, q2, q3⟩ := do_step_keep hst.out.1 hst.out.2
          have hzr : (z : Int) ≤ (r.size : Int) := by have : r.data.toList.length = r.size := rfl; omega
          have hz0 : (0 : Int) ≤ (z : Int) := by omega
          have hzt : ((z : Int)).toNat = z := by omega
          have e1 : (r.extract 0 z).data.toList = r.data.toList.take z := by rw [bs_extract]; simp
          have e2 : (r.extract z r.size).data.toList = r.data.toList.drop z := by rw [bs_extract, ← bs_len, List.take_length]
          have hs2 : (r.extract z r.size).size ≤ 500 := by rw [← bs_len, e2, List.length_drop, bs_len]; omega
          have hs1 : (r.extract 0 z).size ≤ 500 := by rw [← bs_len, e1, List.length_take, bs_len]; omega
          have Hq : Hid ((acc ++ (r.extract 0 z).data.toList) ++ ap id (units (l.drop (k + 1))) (r.extract z r.size).data.toList = R ∧ nI (units (l.drop (k + 1))) = (r.extract z r.size).data.toList.length) := Lib.hid ⟨by rw [e1, e2]; exact q1, by rw [e2]; exact q2⟩
          clear q1 q2 q3 e1 e2 hst
          go_wp2_with fail
          refine (bwrite_any _ gb acc _ _ hbd3.out (by omega) hw1.size).mono ?_
          rintro e w2 ⟨rfl, hbd4, hb2, hbk2⟩
          have hw2 := hw1.trans hb2
          have Hbd4 := Lib.hid hbd4
          have hp2 := hbk2 _ _ _ Hpb.out (by decide) Hgne.out
          have d1 := hp2.cell 1
          have l2 := hp2.lt
          clear hbd4 hb2 hbk2 hp2 hbd3 Hpb hbd
          go_wp2_with fail
          go_roundw
          case rel => exact ⟨k + 1, _, _, by omega, by go_num, rfl, hs2, Hbd4, Hq, hw2⟩
          case measure => simp [intOf]; omega
        · obtain ⟨z, rfl⟩ := Int.eq_ofNat_of_zero_le (show 0 ≤ m by omega)
          obtain ⟨q1, q2, q3⟩ := do_step_cut hst.out.1 hst.out.2
          have hzr : (z : Int) ≤ (r.size : Int) := by have : r.data.toList.length = r.size := rfl; omega
          have hz0 : (0 : Int) ≤ (z : Int) := by omega
          have hzt : ((z : Int)).toNat = z := by omega
          have e2 : (r.extract z r.size).data.toList = r.data.toList.drop z := by rw [bs_extract, ← bs_len, List.take_length]
          have hs2 : (r.extract z r.size).size ≤ 500 := by rw [← bs_len, e2, List.length_drop, bs_len]; omega
          have Hq : Hid (acc ++ ap id (units (l.drop (k + 1))) (r.extract z r.size).data.toList = R ∧ nI (units (l.drop (k + 1))) = (r.extract z r.size).data.toList.length) := Lib.hid ⟨by rw [e2]; exact q1, by rw [e2]; exact q2⟩
          clear q1 q2 q3 e2 hst Hpb hbd
          go_wp2_with fail
          go_roundw
          case rel => exact ⟨k + 1, _, _, by omega, by go_num, rfl, hs2, hbd3, Hq, hw1⟩
          case measure => simp [intOf]; omega
        · have hq := do_step_put hst.out.1 hst.out.2
          have Hq := Lib.hid hq
          clear hq hst Hpb hbd
          go_wp2_with fail
          refine (bwrite_any _ gb acc _ _ hbd3.out (by omega) hw1.size).mono ?_
          rintro e w2 ⟨rfl, hbd4, hb2, hbk2⟩
          have hw2 := hw1.trans hb2
          have Hbd4 := Lib.hid hbd4
          clear hbd4 hb2 hbk2 hbd3
          go_wp2_with fail
          go_roundw
          case rel => exact ⟨k + 1, _, _, by omega, by go_num, rfl, hr5, Hbd4, Hq, hw2⟩
          case measure => simp [intOf]; omega
      · have hR : acc = R := by
          have h1 := hst.out
          rw [List.drop_eq_nil_of_le (by have := H.out.1; omega)] at h1
          have h2 : r.data.toList = [] := List.eq_nil_of_length_eq_zero (by rw [← h1.2]; rfl)
          rw [h2] at h1
          simpa [units, ap] using h1.1
        subst hR
        go_wp2_with fail
        refine (bstring_any _ gb acc _ hbd.out hbw.size).mono ?_
        rintro e w2 ⟨rfl, hb2⟩
        have hw2 := hbw.trans hb2
        go_wp2_with fail
        go_ret2
        exact ⟨rfl, hw2⟩
  · rw [do_err he]
    have hne : ((doE l s) != 0) = true := by simpa using he
    generalize doE l s = E at *
    clear he
    go_enter Try.func22, Try.ntmps22
    go_wp2_with fail
    refine (Hcall.out _ H.out hB).mono ?_
    rintro e w1 ⟨rfl, hb1⟩
    go_wp2_with fail
    go_ret2
    exact ⟨rfl, hb1⟩
end Go.Proofs.Ytfncpcmaplhojaa
