/- Contracts of R.Cost and of the laws' helper cost. -/
import Derived.Test.YtcclcgapcnjcdaaDiff
import Derived.Test.YtcclcgapcnjcdaaCostLaw
import Derived.Test.YtcclcgapcnjcdaaApply
namespace Go.Proofs.Ytcclcgapcnjcdaa
open Go.ChangeShapes Go.WideShapes Go.RowKit
set_option linter.unusedVariables false
set_option linter.unusedSimpArgs false
set_option maxRecDepth 100000
set_option maxHeartbeats 4000000

theorem rcost_any (l : List Pt) (A : Option Addr) (n c B : Nat) (w : World) (h : RdP w B A n c l) (hB : B ≤ w.heap.size) (hk : chk l = 0) (C : Int) (hC : szK l = C) :
    Calls Try.prog 43 #[.slice A n c] w fun e w' => e = .returned (.int .i64 C) ∧ Below w.heap.size w w' := by
  subst hC
  have H := Lib.hid h
  have HF := Lib.hid (chk_parts hk).2.2.2.2.2
  have hn : (n : Int) ≤ 1600 := by have := (chk_parts hk).1; have := h.1; omega
  clear h hk
  go_enter Try.func43, Try.ntmps43
  go_wp2_with fail
  go_loopw [3, 5, 8] (fun x q i wr => ∃ (k : Nat) (a : Int), k ≤ n ∧ i = .int .i64 k ∧ x = .int .i64 a ∧ Hid (a = szK (l.take k)) ∧ 0 ≤ a ∧ a ≤ 1000 * k ∧ Below w.heap.size w wr) (fun _ _ i _ => n - (intOf i).toNat)
  case atStart => exact ⟨0, 0, by omega, rfl, rfl, Lib.hid rfl, by omega, by omega, Below.refl _ _⟩
  case round =>
    obtain ⟨k, a, hk, rfl, rfl, ha, ha0, ha1, hbw⟩ := hrel
    by_cases hlt : k < n
    · have hkl : k < l.length := by have := H.out.1; omega
      obtain ⟨g, o, rfl, hg, c0, c1, c2⟩ := (H.out.below (hbw.mono hB)).at_ k hlt
      have hbd := ((fitE_zero _).1 (HF.out l[k] (List.getElem_mem hkl)))
      have hts : Hid (l.take (k + 1) = l.take k ++ [l[k]]) := Lib.hid (by rw [List.take_succ_eq_append_getElem hkl])
      obtain ⟨p, hp⟩ : ∃ p, p = l[k] := ⟨_, rfl⟩
      rw [← hp] at hbd hts c0 c1 c2
      clear hp
      obtain ⟨kd, m, t⟩ := p
      simp only at hbd c0 c1 c2
      have hm2 : 0 ≤ m ∧ m ≤ 500 ∧ (t.size : Int) ≤ 500 := by
        obtain ⟨q1, q2, q3⟩ := hbd
        rcases q1 with ⟨q4, q5, q6⟩ | ⟨q4, q5, q6⟩
        · simp only at q5 q2 q3; omega
        · simp only at q5 q3; omega
      obtain ⟨hm0, hm1, ht1⟩ := hm2
      have hk0 : (0 : Int) ≤ (k : Int) := by omega
      have hkn : (k : Int) < (n : Int) := by omega
      have hgl : g < wr.heap.size := by have := hbw.size; omega
      clear hbd
      by_cases hkd : kd = 1
      · have hsz : Hid (a = szK (l.take (k + 1))) := Lib.hid (by rw [hts.out, szK_snoc, ← ha.out]; simp [hkd])
        subst hkd
        go_wp2_with fail
        go_roundw
        case rel => exact ⟨k + 1, a, by omega, by go_num, rfl, hsz, by omega, by omega, hbw.alloc hbw.size _⟩
        case measure => simp [intOf]; omega
      · have hsz : Hid (a + (m + t.size) = szK (l.take (k + 1))) := Lib.hid (by rw [hts.out, szK_snoc, ← ha.out]; simp [hkd])
        have hkd' : (kd != 1) = true := by simpa using hkd
        clear hkd
        go_wp2_with fail
        go_roundw
        case rel => exact ⟨k + 1, a + (m + t.size), by omega, by go_num, rfl, hsz, by omega, by omega, hbw.alloc hbw.size _⟩
        case measure => simp [intOf]; omega
    · have hka : Hid (a = szK l) := Lib.hid (by rw [ha.out, List.take_of_length_le (by have := H.out.1; omega)])
      clear ha
      go_wp2_with fail
      go_ret
      exact ⟨by rw [← hka.out]; rfl, hbw⟩
theorem trc_do {s t : ByteArray} (hs : s.size ≤ 500) (ht : t.size ≤ 500) : doE (grp (cz (trc s.data.toList t.data.toList))) s = 0 ∧ doS (grp (cz (trc s.data.toList t.data.toList))) s = t := by
  have hc := trc_chk (S := s.data.toList) (T := t.data.toList) hs ht
  obtain ⟨h1, h2, _⟩ := trc_all _ s.data.toList t.data.toList (Nat.le_refl _)
  have e : doE (grp (cz (trc s.data.toList t.data.toList))) s = 0 := do_zero hc.1 (by rw [hc.2, nI_cz, h1]; rfl)
  refine ⟨e, ba_list ?_⟩
  rw [do_list e, hc.2, ap_cz id _ _ h1, h2]
theorem cost_any (s t : ByteArray) (hs : (s.size : Int) ≤ 500) (ht : (t.size : Int) ≤ 500) (w : World) (C : Nat) (hC : dst s.data.toList t.data.toList = C) :
    Calls Try.prog 41 #[.string s, .string t] w fun e w' => e = .returned (.tuple #[.int .i64 C, .bool true]) ∧ Below w.heap.size w w' := by
  have hc := trc_chk (S := s.data.toList) (T := t.data.toList) (by show s.size ≤ 500; omega) (by show t.size ≤ 500; omega)
  have hd := trc_do (s := s) (t := t) (by omega) (by omega)
  have hz : szK (grp (cz (trc s.data.toList t.data.toList))) = (C : Int) := by rw [szK_chk hc.1, hc.2, dst_trc, hC]
  have Hdf := Lib.hid (diff_good s t hs ht w)
  obtain ⟨L, hL⟩ : ∃ L, grp (cz (trc s.data.toList t.data.toList)) = L := ⟨_, rfl⟩
  rw [hL] at hc hd hz Hdf
  have Hc := Lib.hid hc.1
  have Hd := Lib.hid hd
  have Hz := Lib.hid hz
  clear hc hd hz hL hC
  go_enter Try.func41, Try.ntmps41
  go_wp2_with fail
  refine Hdf.out.mono ?_
  rintro e w1 ⟨A1, n1, c1, rfl, hr1, hb1⟩
  have Hr1 := Lib.hid hr1
  clear hr1
  go_wp2_with fail
  have hc := do_any L A1 n1 c1 _ s w1 Hr1.out (Nat.le_refl _) (by omega)
  rw [Hd.out.1, Hd.out.2] at hc
  refine hc.mono ?_
  rintro e w2 ⟨rfl, hb2⟩
  have hw2 := hb1.trans (hb2.mono hb1.size)
  have Hr2 := Lib.hid (Hr1.out.step hb2)
  clear hc hb1 hb2 Hr1
  go_wp2_with fail
  refine (rcost_any L A1 n1 c1 _ w2 Hr2.out (Nat.le_refl _) Hc.out (C : Int) Hz.out).mono ?_
  rintro e w3 ⟨rfl, hb3⟩
  have hw3 := hw2.trans (hb3.mono hw2.size)
  go_wp2_with fail
  go_ret2
  exact ⟨rfl, hw3⟩
end Go.Proofs.Ytcclcgapcnjcdaa
