/- Contract of turn.Of. -/
import Derived.Test.YtcclcgapcnjcdaaNorm
import Derived.Test.YtcclcgapcnjcdaaApply
import Derived.Test.YtcclcgapcnjcdaaTurnLaw
namespace Go.Proofs.Ytcclcgapcnjcdaa
open Go.ChangeShapes Go.WideShapes Go.RowKit
set_option linter.unusedVariables false
set_option linter.unusedSimpArgs false
set_option maxRecDepth 100000
set_option maxHeartbeats 4000000

theorem turn_any (l : List Pt) (A : Option Addr) (n c B : Nat) (s : ByteArray) (w : World) (h : RdP w B A n c l) (hB : B ≤ w.heap.size) (hs : s.size ≤ 9223372036854775807) :
    Calls Try.prog 73 #[.slice A n c, .string s] w fun e w' => ResP w w' e (doE l s) (turnL l s) := by
  have H := Lib.hid h
  have hcall : ∀ w' , RdP w' B A n c l → B ≤ w'.heap.size → Calls Try.prog 70 #[.slice A n c, .int .i64 s.size] w' fun e w'' => e = .returned (.int .i64 (doE l s)) ∧ Below w'.heap.size w' w'' := fun w' h1 h2 => fits_any l A n c B s.size w' h1 h2
  have Hcall := Lib.hid hcall
  clear h hcall
  by_cases he : doE l s = 0
  · obtain ⟨hk, hn, _, h5⟩ := do_chk he
    have hE := (turn_ok he).1
    rw [he, hE]
    rw [he] at Hcall
    have HF := Lib.hid (chk_parts hk)
    have hn16 : (n : Int) ≤ 1600 := by have := HF.out.1; have := H.out.1; omega
    have hst : ([] : List U) ++ tn (units l) s.data.toList = tn (units l) s.data.toList ∧ nI (units l) = s.data.toList.length := ⟨rfl, hn⟩
    have hfin : (tn (units l) s.data.toList).length ≤ 1000 := by
      have q := len_sizes (tn (units l) s.data.toList)
      rw [nI_tn _ _ hn, nO_tn _ _ hn] at q
      have := (chk_parts hk).2.2.2
      omega
    obtain ⟨X, hX⟩ : ∃ X, tn (units l) s.data.toList = X := ⟨_, rfl⟩
    have hst : ([] : List U) ++ tn (units l) s.data.toList = X ∧ nI (units l) = s.data.toList.length := ⟨hX, hn⟩
    rw [hX] at hfin ⊢
    have Hfin := Lib.hid hfin
    have Hst := Lib.hid hst
    clear hk hn hst he hE hfin hX
    go_enter Try.func73, Try.ntmps73
    go_wp2_with fail
    refine (Hcall.out _ H.out hB).mono ?_
    rintro e w1 ⟨rfl, hb1⟩
    have hbb := hb1.alloc hb1.size (.cells #[.slice none 0 0, .string ⟨#[]⟩, .int .i64 0] 94)
    have hsz := hb1.size
    have hmk : Mk (w1.alloc (.cells #[.slice none 0 0, .string ⟨#[]⟩, .int .i64 0] 94)) w.heap.size w1.heap.size none [] :=
      ⟨[], emp, 0, ⟨_, Blk.new w1 _ _, OwnP.nil _ _, rfl⟩, MRep.new⟩
    have Hmk := Lib.hid hmk
    clear hb1 hmk
    go_wp2_with fail
    obtain ⟨gm, hgm⟩ : ∃ g, g = w1.heap.size := ⟨_, rfl⟩
    rw [← hgm] at Hmk ⊢
    have hgB : w.heap.size ≤ gm := by omega
    clear hgm
    go_loopw [1, 9, 19] (fun sv pv i wr => ∃ (k : Nat) (told : List U) (ob : Option Nat) (r : ByteArray), k ≤ n ∧ i = .int .i64 k ∧ sv = .string r ∧ r.size ≤ 500 ∧ Hid (Mk wr w.heap.size gm ob told) ∧ Hid (told ++ tn (units (l.drop k)) r.data.toList = X ∧ nI (units (l.drop k)) = r.data.toList.length) ∧ Below w.heap.size w wr) (fun _ _ i _ => n - (intOf i).toNat)
    case atStart => exact ⟨0, [], none, s, by omega, rfl, rfl, h5, Hmk, Lib.hid (by rw [List.drop_zero]; exact Hst.out), hbb⟩
    case round =>
      obtain ⟨k, told, ob, r, hk, rfl, rfl, hr5, hmk, hst, hbw⟩ := hrel
      have hacc : told.length ≤ 1000 := by
        have h1 := Hfin.out
        rw [← hst.out.1, List.length_append] at h1
        omega
      by_cases hlt : k < n
      · have hkl : k < l.length := by have := H.out.1; omega
        obtain ⟨g, o, rfl, hg, c0, c1, c2⟩ := (H.out.below (hbw.mono hB)).at_ k hlt
        have hbd2 := fit_bounds _ (HF.out.2.2.2.2.2 l[k] (List.getElem_mem hkl))
        have hdr : l.drop k = l[k] :: l.drop (k + 1) := List.drop_eq_getElem_cons hkl
        rw [hdr] at hst
        obtain ⟨p, hp⟩ : ∃ p, p = l[k] := ⟨_, rfl⟩
        rw [← hp] at hbd2 hst c0 c1 c2
        clear hp hdr
        obtain ⟨kd, m, t⟩ := p
        simp only at hbd2 c0 c1 c2
        have hk0 : (0 : Int) ≤ (k : Int) := by omega
        have hkn : (k : Int) < (n : Int) := by omega
        have hgl : g < wr.heap.size := by have := hbw.size; omega
        have hw1 := hbw.alloc hbw.size (.cells #[.int .i64 kd, .int .i64 m, .string t] 56)
        have hmk3 := Lib.hid (hmk.out.alloc (.cells #[.int .i64 kd, .int .i64 m, .string t] 56))
        have hpb := Blk.new wr 56 #[.int .i64 kd, .int .i64 m, .string t]
        have Hpb := Lib.hid hpb
        have Hpn : Hid (∀ S : Nat → Prop, (∀ k, S k → k = gm ∨ ob = some k) → ¬ S wr.heap.size) := Lib.hid fun S hS h => by
          rcases hS _ h with h | h
          · have := hmk.out.lt; omega
          · have := (hmk.out.ge _ h).2.1; omega
        clear hpb
        rcases hbd2 with ⟨rfl | rfl, h1, h2, rfl⟩ | ⟨rfl, rfl, h1, h2⟩
        · obtain ⟨z, rfl⟩ := Int.eq_ofNat_of_zero_le (show 0 ≤ m by omega)
          obtain ⟨q1, q2, q3⟩ := tn_step_keep hst.out.1 hst.out.2
          have hzr : (z : Int) ≤ (r.size : Int) := by have : r.data.toList.length = r.size := rfl; omega
          have hz0 : (0 : Int) ≤ (z : Int) := by omega
          have hzt : ((z : Int)).toNat = z := by omega
          have e2 : (r.extract z r.size).data.toList = r.data.toList.drop z := by rw [bs_extract, ← bs_len, List.take_length]
          have hs2 : (r.extract z r.size).size ≤ 500 := by rw [← bs_len, e2, List.length_drop, bs_len]; omega
          have Hq : Hid ((told ++ ku (z : Int)) ++ tn (units (l.drop (k + 1))) (r.extract z r.size).data.toList = X ∧ nI (units (l.drop (k + 1))) = (r.extract z r.size).data.toList.length) := Lib.hid ⟨by rw [e2]; exact q1, by rw [e2]; exact q2⟩
          clear q1 q2 q3 e2 hst
          go_wp2_with fail
          refine (mkeep_any (z : Int) hmk3.out (by omega) hw1.size (by omega) (by omega)).mono ?_
          rintro e w2 ⟨rfl, ob2, hm4, hf4⟩
          have hge := hmk3.out.ge
          have hw2 := hw1.trans (hf4.below_ hw1.size hgB fun k hk => (hge k hk).1)
          have Hm4 := Lib.hid hm4
          have hp2 := Hpb.out.only hf4.1 (Hpn.out _ fun k h => h)
          have d1 := hp2.cell 1
          have l2 := hp2.lt
          clear hm4 hf4 hge hp2 hmk3 Hpb hmk Hpn
          go_wp2_with fail
          go_roundw
          case rel => exact ⟨k + 1, _, ob2, _, by omega, by go_num, rfl, hs2, Hm4, Hq, hw2⟩
          case measure => simp [intOf]; omega
        · obtain ⟨z, rfl⟩ := Int.eq_ofNat_of_zero_le (show 0 ≤ m by omega)
          obtain ⟨q1, q2, q3⟩ := tn_step_cut hst.out.1 hst.out.2
          have hzr : (z : Int) ≤ (r.size : Int) := by have : r.data.toList.length = r.size := rfl; omega
          have hz0 : (0 : Int) ≤ (z : Int) := by omega
          have hzt : ((z : Int)).toNat = z := by omega
          have e1 : (r.extract 0 z).data.toList = r.data.toList.take z := by rw [bs_extract]; simp
          have e2 : (r.extract z r.size).data.toList = r.data.toList.drop z := by rw [bs_extract, ← bs_len, List.take_length]
          have hs2 : (r.extract z r.size).size ≤ 500 := by rw [← bs_len, e2, List.length_drop, bs_len]; omega
          have hs1 : (r.extract 0 z).size ≤ 500 := by rw [← bs_len, e1, List.length_take, bs_len]; omega
          have Hq : Hid ((told ++ pu (r.extract 0 z)) ++ tn (units (l.drop (k + 1))) (r.extract z r.size).data.toList = X ∧ nI (units (l.drop (k + 1))) = (r.extract z r.size).data.toList.length) := Lib.hid ⟨by rw [e2]; unfold pu; rw [e1]; exact q1, by rw [e2]; exact q2⟩
          clear q1 q2 q3 e1 e2 hst
          go_wp2_with fail
          refine (mput_any _ hmk3.out (by omega) (by omega)).mono ?_
          rintro e w2 ⟨rfl, hm4, hf4⟩
          have hge := hmk3.out.ge
          have hw2 := hw1.trans (MFr.below_ (ob' := ob) ⟨hf4, .inl rfl⟩ hw1.size hgB fun k hk => (hge k hk).1)
          have Hm4 := Lib.hid hm4
          have hp2 := Hpb.out.only hf4 (Hpn.out _ fun k h => h)
          have d1 := hp2.cell 1
          have l2 := hp2.lt
          clear hm4 hf4 hge hp2 hmk3 Hpb hmk Hpn
          go_wp2_with fail
          go_roundw
          case rel => exact ⟨k + 1, _, ob, _, by omega, by go_num, rfl, hs2, Hm4, Hq, hw2⟩
          case measure => simp [intOf]; omega
        · have hq := tn_step_put hst.out.1 hst.out.2
          have Hq := Lib.hid hq
          clear hq hst Hpb hmk Hpn
          go_wp2_with fail
          refine (mcut_any (t.size : Int) hmk3.out (by omega) (by omega) (by omega)).mono ?_
          rintro e w2 ⟨rfl, hm4, hf4⟩
          have hge := hmk3.out.ge
          have hw2 := hw1.trans (MFr.below_ (ob' := ob) ⟨hf4, .inl rfl⟩ hw1.size hgB fun k hk => (hge k hk).1)
          have Hm4 := Lib.hid hm4
          clear hm4 hf4 hge hmk3
          go_wp2_with fail
          go_roundw
          case rel => exact ⟨k + 1, _, ob, _, by omega, by go_num, rfl, hr5, Hm4, Hq, hw2⟩
          case measure => simp [intOf]; omega
      · have hR : told = X := by
          have h1 := hst.out
          rw [List.drop_eq_nil_of_le (by have := H.out.1; omega)] at h1
          have h2 : r.data.toList = [] := List.eq_nil_of_length_eq_zero (by rw [← h1.2]; rfl)
          rw [h2] at h1
          simpa [units, tn] using h1.1
        subst hR
        go_wp2_with fail
        refine (mdone_any hmk.out (by omega) hbw.size).mono ?_
        rintro e w2 ⟨v, ob2, rfl, ho, _, hf⟩
        have hge := hmk.out.ge
        have hw2 := hbw.trans (hf.below_ hbw.size hgB fun k hk => (hge k hk).1)
        obtain ⟨A5, c5, rfl⟩ := ho.form
        have Ho := Lib.hid ho
        clear ho hf hge
        go_wp2_with fail
        go_ret2
        exact ⟨_, rfl, Ho.out, hw2⟩
  · rw [turn_err he]
    have hne : ((doE l s) != 0) = true := by simpa using he
    generalize doE l s = E at *
    clear he
    go_enter Try.func73, Try.ntmps73
    go_wp2_with fail
    refine (Hcall.out _ H.out hB).mono ?_
    rintro e w1 ⟨rfl, hb1⟩
    go_wp2_with fail
    go_ret2
    exact ResP.err w E hb1
theorem turn_rd (l : List Pt) (A : Option Addr) (n c B : Nat) (s : ByteArray) (w : World) (h : RdP w B A n c l) (hB : B ≤ w.heap.size) (hs : s.size ≤ 9223372036854775807) :
    Calls Try.prog 73 #[.slice A n c, .string s] w fun e w' => ∃ A c, e = .returned (.tuple #[.slice A (turnL l s).length c, .int .i64 (doE l s)]) ∧ RdP w' w'.heap.size A (turnL l s).length c (turnL l s) ∧ Below w.heap.size w w' :=
  (turn_any l A n c B s w h hB hs).mono fun e w' h => h.rd (by
    by_cases he : doE l s = 0
    · exact text_good (turn_ok he).2.1
    · rw [turn_err he]; simp)
end Go.Proofs.Ytcclcgapcnjcdaa
