/- Contract of tier.Between. -/
import Derived.Test.YtfncpcmaplhojaaTiles
import Derived.Test.YtfncpcmaplhojaaBetween
namespace Go.Proofs.Ytfncpcmaplhojaa
open Go.ChangeShapes Go.WideShapes Go.RowKit
set_option linter.unusedVariables false
set_option linter.unusedSimpArgs false
set_option maxRecDepth 100000
set_option maxHeartbeats 4000000

theorem _root_.Go.RowKit.Below.drewN' {B : Nat} {a w : World} (h : Below B a w) (n : Nat) : Below B a (w.drewN n) := ⟨h.os, h.tape, h.output, h.size, h.block⟩
theorem tbetween_same (A : Option Addr) (m c i : Nat) (w : World) (hi : i ≤ 64) :
    Calls Try.prog 23 #[.slice A m c, .int .i64 i, .int .i64 i] w fun e w' => e = .returned (.tuple #[.slice none 0 0, .int .i64 1]) ∧ Below w.heap.size w w' := by
  have hc := cover_good i i w (by omega) (by omega)
  have Hc := Lib.hid hc
  clear hc
  go_enter Try.func23, Try.ntmps23
  go_wp2_with fail
  refine Hc.out.mono ?_
  rintro e w1 ⟨v, rfl, _, hb⟩
  go_wp2_with fail
  go_ret2
  exact ⟨rfl, hb⟩
theorem tbetween_good (base : ByteArray) (l : List Rv) (he : txE base l = 0) (A : Option Addr) (m c B : Nat) (rs : List Value) (uss : List (List Value)) (i k : Nat) (w : World) (h : OwnTier w B (.slice A m c) rs uss (tiersL l)) (hik : i < k) (hk : k ≤ l.length) :
    Calls Try.prog 23 #[.slice A m c, .int .i64 i, .int .i64 k] w fun e w' => ∃ A1 n1 c1, e = .returned (.tuple #[.slice A1 n1 c1, .int .i64 0]) ∧ RdP w' w'.heap.size A1 n1 c1 (bk base l i k) ∧ Below w.heap.size w w' := by
  have hl := (txE_parts he).2.1
  have hc := cover_good i k w (by omega) (by omega)
  have Hc := Lib.hid hc
  have H := Lib.hid h
  have He := Lib.hid he
  obtain ⟨ht, hn⟩ := tiles_all ⟨k, by omega⟩ ⟨i, by omega⟩ (by simp only; omega)
  simp only at ht hn
  have hbit := bitsOf_le (k - i)
  obtain ⟨L, hL⟩ : ∃ L, coverL 65 i k = L := ⟨_, rfl⟩
  rw [hL] at ht hn Hc
  have Ht := Lib.hid ht
  have hn20 : L.length ≤ 20 := by omega
  have hne : ((i : Int) == (k : Int)) = false := by simp; omega
  clear hc h he ht hn hL hbit
  go_enter Try.func23, Try.ntmps23
  go_wp2_with fail
  refine Hc.out.mono ?_
  rintro e w1 ⟨v, rfl, hown, hb1⟩
  obtain ⟨Ac, cc, rfl, hrd⟩ := Rd.own hown
  obtain ⟨n, hnl⟩ : ∃ n, L.length = n := ⟨_, rfl⟩
  rw [hnl] at hrd hn20 ⊢
  have hle : 1 ≤ n := by
    rcases Nat.eq_zero_or_pos n with h0 | h0
    · have h1 : L = [] := List.eq_nil_of_length_eq_zero (by omega)
      have := Ht.out
      rw [h1] at this
      simp [tiles] at this
      omega
    · exact h0
  have Hnl := Lib.hid hnl
  have Hrd := Lib.hid hrd
  have hkl : (k : Int) ≤ 64 := by omega
  have Hik := Lib.hid hik
  have Hk := Lib.hid hk
  have Hb1 := Lib.hid hb1
  have Hne := Lib.hid hne
  clear hown hnl hrd Hc hb1 hik hk
  go_wp2_with fail
  clear hne
  go_loopw [9, 10, 11, 12, 13, 14, 33] (fun ev ov nv bv dv fv pv wr => ∃ (p q : Nat) (A1 : Option Addr) (n1 c1 : Nat), p ≤ n ∧ pv = .int .i64 p ∧ ov = .slice A1 n1 c1 ∧ Hid (tiles q (L.drop p) = some k) ∧ Hid (i ≤ q) ∧ Hid (p = 0 → q = i) ∧ Hid (0 < p → RdP wr wr.heap.size A1 n1 c1 (bk base l i q)) ∧ Hid (Below w.heap.size w wr) ∧ Hid (Below w1.heap.size w1 wr)) (fun _ _ _ _ _ _ pv _ => 30 - (intOf pv).toNat)
  case atStart => exact ⟨0, i, none, 0, 0, by omega, rfl, rfl, Ht, Lib.hid (Nat.le_refl _), Lib.hid (fun _ => rfl), Lib.hid (fun h => absurd h (by omega)), Hb1, Lib.hid (Below.refl _ _)⟩
  case round =>
    obtain ⟨p, q, A1, n1, c1, hp, rfl, rfl, htl, hiq, hpq, hrp, hbw, hbv⟩ := hrel
    by_cases hlt : p < n
    · have hpl : p < L.length := by have := Hnl.out; omega
      have htl2 := htl.out
      rw [List.drop_eq_getElem_cons hpl] at htl2
      obtain ⟨hx6, hq, hy64, hnext⟩ := tiles_cons _ _ _ _ htl2
      obtain ⟨b, o, rfl, hbb, hcc⟩ := (Hrd.out.below hbv.out).2.2.2 (by omega)
      obtain ⟨e1, e2⟩ := bcell_at L p hpl
      have a1 := hcc _ _ e1
      have a2 := hcc _ _ e2
      have hqk := tiles_le _ _ _ hnext
      have Hnext := Lib.hid hnext
      clear hnext htl2 htl hcc e1 e2
      generalize L[p].1 = x at *
      generalize L[p].2 = y at *
      have hp0 : (0 : Int) ≤ (p : Int) := by omega
      have hpn : (p : Int) < (n : Int) := by omega
      have hn20i : (n : Int) ≤ 20 := by omega
      rw [← Nat.add_assoc] at a2
      have hy2 : (y + 1) * 2 ^ x = q + 2 ^ x := by rw [Nat.add_mul, hq, Nat.one_mul]
      obtain ⟨ls, g1, g2⟩ := tier_block He.out x y (by rw [hy2]; exact Nat.le_trans hqk Hk.out)
      rw [hy2, hq] at g2
      obtain ⟨q', hq'⟩ : ∃ q', q + 2 ^ x = q' := ⟨_, rfl⟩
      have hqq : q ≤ q' := by rw [← hq']; exact Nat.le_add_right _ _
      rw [hq'] at g2 hqk Hnext
      have hgl : b < wr.heap.size := by have := hbv.out.size; omega
      have hpb := Blk.new wr 123 #[.int .i64 x, .int .i64 y]
      have hbn := (Below.refl wr.heap.size wr).alloc (Nat.le_refl _) (.cells #[.int .i64 x, .int .i64 y] 123)
      have hti := (H.out.step hbw.out).step hbn
      obtain ⟨g, gr, cr, A2, n2, c2, rfl, hxm, hgw, k1, hgr, k2, hyl, hrd2⟩ := hti.look x y ls _ g1 g2
      obtain ⟨r, hr⟩ : ∃ r, ls.length = r := ⟨_, rfl⟩
      rw [hr] at k1 hyl
      have p0 := hpb.cell 0
      have p1 := hpb.cell 1
      have pl := hpb.lt
      have hck := bk_chk He.out q q' hqq (Nat.le_trans hqk Hk.out)
      have hplw := parts_law He.out i q q' hiq.out hqq (Nat.le_trans hqk Hk.out)
      have Hck := Lib.hid hck
      have Hpl := Lib.hid hplw
      have Hrd2 := Lib.hid hrd2
      have Hbw := Lib.hid (hbw.out.trans (hbn.mono hbw.out.size))
      have Hbv := Lib.hid (hbv.out.trans (hbn.mono hbv.out.size))
      have Hrp : Hid (0 < p → RdP (wr.alloc (.cells #[.int .i64 x, .int .i64 y] 123)) (wr.alloc (.cells #[.int .i64 x, .int .i64 y] 123)).heap.size A1 n1 c1 (bk base l i q)) := Lib.hid fun h => (hrp.out h).step hbn
      have x0 : (0 : Int) ≤ (x : Int) := by omega
      have x1 : (x : Int) < (m : Int) := by omega
      have y0 : (0 : Int) ≤ (y : Int) := by omega
      have y1 : (y : Int) < (r : Int) := by omega
      have x2 : ((x : Int)).toNat = x := by omega
      have y2 : ((y : Int)).toNat = y := by omega
      have Hqk := Lib.hid hqk
      have Hqq := Lib.hid hqq
      clear hpb hbn hti hrd2 hck hplw hbw hbv hrp hr g1 g2 hq hy2 hq' hx6 hy64 hqk hqq hxm hyl
      have x3 : decide (m ≤ x) = false := by simp; omega
      have y3 : decide (r ≤ y) = false := by simp; omega
      go_wp2_with fail
      go_quiet (fail)
      go_wp2_with fail
      go_quiet (fail)
      go_wp2_with fail
      generalize (wr.alloc (.cells #[.int .i64 x, .int .i64 y] 123)) = W2 at *
      clear p0 p1 pl k1 k2 a1 a2
      have Hc2 : ∀ nn, Calls Try.prog 64 #[.slice A2 n2 c2] (W2.drewN nn) fun e w' => e = .returned (.int .i64 0) ∧ Below W2.heap.size W2 w' := fun nn => by
        refine (chk_any _ A2 n2 c2 W2.heap.size (W2.drewN nn) Hrd2.out (Nat.le_refl _)).mono ?_
        rintro e w5 ⟨rfl, hb5⟩
        rw [Hck.out]
        exact ⟨rfl, (Below.drewN' (Below.refl _ _) nn).trans hb5⟩
      refine (Hc2 _).mono ?_
      rintro e w5 ⟨rfl, hb5⟩
      have Hrd5 := Lib.hid (Hrd2.out.step hb5)
      have Hrp5 : Hid (0 < p → RdP w5 w5.heap.size A1 n1 c1 (bk base l i q)) := Lib.hid fun h => (Hrp.out h).step hb5
      have Hbw5 := Lib.hid (Hbw.out.trans (hb5.mono Hbw.out.size))
      have Hbv5 := Lib.hid (Hbv.out.trans (hb5.mono Hbv.out.size))
      clear Hc2 Hrd2 Hrp Hbw Hbv hb5
      have hsm := small_of (.inl Hck.out)
      have hcl : ([] : List Pt).length + n2 ≤ 4000000 := by have h1 := hsm.1; have h2 := Hrd5.out.1; simp only [List.length_nil]; omega
      obtain ⟨N, hN⟩ : ∃ N, N = (bk base l q q').length := ⟨_, rfl⟩
      have Hsm := Lib.hid hsm.2
      have HN := Lib.hid hN
      clear hsm hN
      rcases Nat.eq_zero_or_pos p with h0 | h0
      · have hz : ((p : Int) == 0) = true := by simp; omega
        have hqi := hpq.out h0
        have hiq' : i ≤ q' := by have := Hqq.out; omega
        have Hiq' := Lib.hid hiq'
        have Hqi := Lib.hid hqi
        clear hqi hiq' h0 Hpl Hrp5 hpq hiq
        go_wp2_with (first | (at_builtin; go_loud (refine wpList_app_partsC _ rfl (.const (.slice none 0 0)) (.tmp 70) rfl w5.heap.size _ [] rfl (OwnP.nil _ _) A2 n2 c2 w5.heap.size (bk base l q q') rfl Hrd5.out hcl (Nat.le_refl _) ?_; intro v4 w4 q1 q2; have q1 : OwnP w4 w5.heap.size v4 (bk base l q q') := q1; obtain ⟨A4, c4, rfl⟩ := q1.form_ (n := N) HN.out.symm; have q3 := Lib.hid (Hbw5.out.trans (q2.mono Hbw5.out.size)); have q4 := Lib.hid (Hbv5.out.trans (q2.mono Hbv5.out.size)); have q5 := q1.rd Hsm.out; obtain ⟨A5, c5, q6, q7⟩ := q5; rw [← HN.out] at q6 q7; injection q6 with q8 q9 q10; subst q8; subst q10; have Hq7 := Lib.hid q7; clear q1 q2 q7)))
        go_wp2_with fail
        go_roundw
        case rel => exact ⟨p + 1, q', _, _, _, by omega, by go_num, rfl, Hnext, Hiq', Lib.hid (fun h => absurd h (by omega)), Lib.hid (fun _ => by rw [← Hqi.out]; exact Hq7.out), q3, q4⟩
        case measure => simp [intOf]; omega
      · have hz : ((p : Int) == 0) = false := by simp; omega
        have hco := comp_rdn _ _ A1 A2 n1 n2 c1 c2 w5 (Hrp5.out h0) Hrd5.out 0 (bk base l i q') Hpl.out.1 Hpl.out.2
        have hiq' : i ≤ q' := by have := Hqq.out; have := hiq.out; omega
        have Hiq' := Lib.hid hiq'
        have Hco := Lib.hid hco
        clear hco hiq' h0 Hpl Hrp5 hpq hiq Hrd5
        go_wp2_with fail
        refine Hco.out.mono ?_
        rintro e w6 ⟨A6, n6, c6, rfl, hr6, hb6⟩
        have Hr6 := Lib.hid hr6
        have q3 := Lib.hid (Hbw5.out.trans (hb6.mono Hbw5.out.size))
        have q4 := Lib.hid (Hbv5.out.trans (hb6.mono Hbv5.out.size))
        clear hr6 hb6 Hco
        go_wp2_with fail
        go_roundw
        case rel => exact ⟨p + 1, q', _, _, _, by omega, by go_num, rfl, Hnext, Hiq', Lib.hid (fun h => absurd h (by omega)), Lib.hid (fun _ => Hr6.out), q3, q4⟩
        case measure => simp [intOf]; omega
    · obtain rfl : p = n := by omega
      have hd : L.drop p = [] := List.drop_eq_nil_of_le (by have := Hnl.out; omega)
      have htl2 := htl.out
      rw [hd] at htl2
      have hqk : q = k := by simpa [tiles] using htl2
      have Hr := Lib.hid (hrp.out (by omega))
      rw [hqk] at Hr
      clear htl2 hd hqk htl hrp hpq hiq
      go_wp2_with fail
      go_ret2
      exact ⟨_, _, _, rfl, Hr.out, hbw.out⟩
