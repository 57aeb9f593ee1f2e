/- Contract of tier.Between. Small laws for the laws over tiers. Contract of scrivref.SameTiers, where both are the same. Contracts of scrivref.SameRev and SameRevs, where both are the same. Structs in boxes: whole rows loaded and stored. Contracts of num.Put and what it makes: the bytes of a number. -/
import Derived.Test.YtfncpcmaplhojaaMTierOwn14
import Derived.Test.YtfncpcmaplhojaaMTierOwn6
import Derived.Test.YtfncpcmaplhojaaMTierOwn13
import Derived.Test.YtfncpcmaplhojaaMTierOwn4
import Derived.Deep.Cut
import Derived.StillTailTactics
import Derived.Deep.MidRow
import Derived.Test.YtfncpcmaplhojaaMTierOwn1
namespace Go.Proofs.Ytfncpcmaplhojaa
open Go.ChangeShapes Go.WideShapes Go.RowKit
set_option linter.unusedVariables false
set_option linter.unusedSimpArgs false
set_option maxRecDepth 100000
set_option maxHeartbeats 4000000

theorem _root_.Go.RowKit.Below.drewN' {B : Nat} {a w : World} (h : Below B a w) (n : Nat) : Below B a (w.drewN n) := ⟨h.os, h.tape, h.output, h.size, h.block⟩
theorem tbetween_same (A : Option Addr) (m c i : Nat) (w : World) (hi : i ≤ 64) :
    Calls Try.prog 23 #[.slice A m c, .int .i64 i, .int .i64 i] w fun e w' => e = .returned (.tuple #[.slice none 0 0, .int .i64 1]) ∧ Below w.heap.size w w' := by
  have hc := cover_good i i w (by omega) (by omega)
  have Hc := Lib.hid hc
  clear hc
  go_enter Try.func23, Try.ntmps23
  go_wp2_with fail
  refine Hc.out.mono ?_
  rintro e w1 ⟨v, rfl, _, hb⟩
  go_wp2_with fail
  go_ret2
  exact ⟨rfl, hb⟩
theorem tbetween_good (base : ByteArray) (l : List Rv) (he : txE base l = 0) (A : Option Addr) (m c B : Nat) (rs : List Value) (uss : List (List Value)) (i k : Nat) (w : World) (h : OwnTier w B (.slice A m c) rs uss (tiersL l)) (hik : i < k) (hk : k ≤ l.length) :
    Calls Try.prog 23 #[.slice A m c, .int .i64 i, .int .i64 k] w fun e w' => ∃ A1 n1 c1, e = .returned (.tuple #[.slice A1 n1 c1, .int .i64 0]) ∧ RdP w' w'.heap.size A1 n1 c1 (bk base l i k) ∧ Below w.heap.size w w' := by
  have hl := (txE_parts he).2.1
  have hc := cover_good i k w (by omega) (by omega)
  have Hc := Lib.hid hc
  have H := Lib.hid h
  have He := Lib.hid he
  obtain ⟨ht, hn⟩ := tiles_all ⟨k, by omega⟩ ⟨i, by omega⟩ (by simp only; omega)
  simp only at ht hn
  have hbit := bitsOf_le (k - i)
  obtain ⟨L, hL⟩ : ∃ L, coverL 65 i k = L := ⟨_, rfl⟩
  rw [hL] at ht hn Hc
  have Ht := Lib.hid ht
  have hn20 : L.length ≤ 20 := by omega
  have hne : ((i : Int) == (k : Int)) = false := by simp; omega
  clear hc h he ht hn hL hbit
  go_enter Try.func23, Try.ntmps23
  go_wp2_with fail
  refine Hc.out.mono ?_
  rintro e w1 ⟨v, rfl, hown, hb1⟩
  obtain ⟨Ac, cc, rfl, hrd⟩ := Rd.own hown
  obtain ⟨n, hnl⟩ : ∃ n, L.length = n := ⟨_, rfl⟩
  rw [hnl] at hrd hn20 ⊢
  have hle : 1 ≤ n := by
    rcases Nat.eq_zero_or_pos n with h0 | h0
    · have h1 : L = [] := List.eq_nil_of_length_eq_zero (by omega)
      have := Ht.out
      rw [h1] at this
      simp [tiles] at this
      omega
    · exact h0
  have Hnl := Lib.hid hnl
  have Hrd := Lib.hid hrd
  have hkl : (k : Int) ≤ 64 := by omega
  have Hik := Lib.hid hik
  have Hk := Lib.hid hk
  have Hb1 := Lib.hid hb1
  have Hne := Lib.hid hne
  clear hown hnl hrd Hc hb1 hik hk
  go_wp2_with fail
  clear hne
  go_loopw [9, 10, 11, 12, 13, 14, 33] (fun ev ov nv bv dv fv pv wr => ∃ (p q : Nat) (A1 : Option Addr) (n1 c1 : Nat), p ≤ n ∧ pv = .int .i64 p ∧ ov = .slice A1 n1 c1 ∧ Hid (tiles q (L.drop p) = some k) ∧ Hid (i ≤ q) ∧ Hid (p = 0 → q = i) ∧ Hid (0 < p → RdP wr wr.heap.size A1 n1 c1 (bk base l i q)) ∧ Hid (Below w.heap.size w wr) ∧ Hid (Below w1.heap.size w1 wr)) (fun _ _ _ _ _ _ pv _ => 30 - (intOf pv).toNat)
  case atStart => exact ⟨0, i, none, 0, 0, by omega, rfl, rfl, Ht, Lib.hid (Nat.le_refl _), Lib.hid (fun _ => rfl), Lib.hid (fun h => absurd h (by omega)), Hb1, Lib.hid (Below.refl _ _)⟩
  case round =>
    obtain ⟨p, q, A1, n1, c1, hp, rfl, rfl, htl, hiq, hpq, hrp, hbw, hbv⟩ := hrel
    by_cases hlt : p < n
    · have hpl : p < L.length := by have := Hnl.out; omega
      have htl2 := htl.out
      rw [List.drop_eq_getElem_cons hpl] at htl2
      obtain ⟨hx6, hq, hy64, hnext⟩ := tiles_cons _ _ _ _ htl2
      obtain ⟨b, o, rfl, hbb, hcc⟩ := (Hrd.out.below hbv.out).2.2.2 (by omega)
      obtain ⟨e1, e2⟩ := bcell_at L p hpl
      have a1 := hcc _ _ e1
      have a2 := hcc _ _ e2
      have hqk := tiles_le _ _ _ hnext
      have Hnext := Lib.hid hnext
      clear hnext htl2 htl hcc e1 e2
      generalize L[p].1 = x at *
      generalize L[p].2 = y at *
      have hp0 : (0 : Int) ≤ (p : Int) := by omega
      have hpn : (p : Int) < (n : Int) := by omega
      have hn20i : (n : Int) ≤ 20 := by omega
      rw [← Nat.add_assoc] at a2
      have hy2 : (y + 1) * 2 ^ x = q + 2 ^ x := by rw [Nat.add_mul, hq, Nat.one_mul]
      obtain ⟨ls, g1, g2⟩ := tier_block He.out x y (by rw [hy2]; exact Nat.le_trans hqk Hk.out)
      rw [hy2, hq] at g2
      obtain ⟨q', hq'⟩ : ∃ q', q + 2 ^ x = q' := ⟨_, rfl⟩
      have hqq : q ≤ q' := by rw [← hq']; exact Nat.le_add_right _ _
      rw [hq'] at g2 hqk Hnext
      have hgl : b < wr.heap.size := by have := hbv.out.size; omega
      have hpb := Blk.new wr 123 #[.int .i64 x, .int .i64 y]
      have hbn := (Below.refl wr.heap.size wr).alloc (Nat.le_refl _) (.cells #[.int .i64 x, .int .i64 y] 123)
      have hti := (H.out.step hbw.out).step hbn
      obtain ⟨g, gr, cr, A2, n2, c2, rfl, hxm, hgw, k1, hgr, k2, hyl, hrd2⟩ := hti.look x y ls _ g1 g2
      obtain ⟨r, hr⟩ : ∃ r, ls.length = r := ⟨_, rfl⟩
      rw [hr] at k1 hyl
      have p0 := hpb.cell 0
      have p1 := hpb.cell 1
      have pl := hpb.lt
      have hck := bk_chk He.out q q' hqq (Nat.le_trans hqk Hk.out)
      have hplw := parts_law He.out i q q' hiq.out hqq (Nat.le_trans hqk Hk.out)
      have Hck := Lib.hid hck
      have Hpl := Lib.hid hplw
      have Hrd2 := Lib.hid hrd2
      have Hbw := Lib.hid (hbw.out.trans (hbn.mono hbw.out.size))
      have Hbv := Lib.hid (hbv.out.trans (hbn.mono hbv.out.size))
      have Hrp : Hid (0 < p → RdP (wr.alloc (.cells #[.int .i64 x, .int .i64 y] 123)) (wr.alloc (.cells #[.int .i64 x, .int .i64 y] 123)).heap.size A1 n1 c1 (bk base l i q)) := Lib.hid fun h => (hrp.out h).step hbn
      have x0 : (0 : Int) ≤ (x : Int) := by omega
      have x1 : (x : Int) < (m : Int) := by omega
      have y0 : (0 : Int) ≤ (y : Int) := by omega
      have y1 : (y : Int) < (r : Int) := by omega
      have x2 : ((x : Int)).toNat = x := by omega
      have y2 : ((y : Int)).toNat = y := by omega
      have Hqk := Lib.hid hqk
      have Hqq := Lib.hid hqq
      clear hpb hbn hti hrd2 hck hplw hbw hbv hrp hr g1 g2 hq hy2 hq' hx6 hy64 hqk hqq hxm hyl
      have x3 : decide (m ≤ x) = false := by simp; omega
      have y3 : decide (r ≤ y) = false := by simp; omega
      go_wp2_with fail
      go_quiet (fail)
      go_wp2_with fail
      go_quiet (fail)
      go_wp2_with fail
      generalize (wr.alloc (.cells #[.int .i64 x, .int .i64 y] 123)) = W2 at *
      clear p0 p1 pl k1 k2 a1 a2
      have Hc2 : ∀ nn, Calls Try.prog 64 #[.slice A2 n2 c2] (W2.drewN nn) fun e w' => e = .returned (.int .i64 0) ∧ Below W2.heap.size W2 w' := fun nn => by
        refine (chk_any _ A2 n2 c2 W2.heap.size (W2.drewN nn) Hrd2.out (Nat.le_refl _)).mono ?_
        rintro e w5 ⟨rfl, hb5⟩
        rw [Hck.out]
        exact ⟨rfl, (Below.drewN' (Below.refl _ _) nn).trans hb5⟩
      refine (Hc2 _).mono ?_
      rintro e w5 ⟨rfl, hb5⟩
      have Hrd5 := Lib.hid (Hrd2.out.step hb5)
      have Hrp5 : Hid (0 < p → RdP w5 w5.heap.size A1 n1 c1 (bk base l i q)) := Lib.hid fun h => (Hrp.out h).step hb5
      have Hbw5 := Lib.hid (Hbw.out.trans (hb5.mono Hbw.out.size))
      have Hbv5 := Lib.hid (Hbv.out.trans (hb5.mono Hbv.out.size))
      clear Hc2 Hrd2 Hrp Hbw Hbv hb5
      have hsm := small_of (.inl Hck.out)
      have hcl : ([] : List Pt).length + n2 ≤ 4000000 := by have h1 := hsm.1; have h2 := Hrd5.out.1; simp only [List.length_nil]; omega
      obtain ⟨N, hN⟩ : ∃ N, N = (bk base l q q').length := ⟨_, rfl⟩
      have Hsm := Lib.hid hsm.2
      have HN := Lib.hid hN
      clear hsm hN
      rcases Nat.eq_zero_or_pos p with h0 | h0
      · have hz : ((p : Int) == 0) = true := by simp; omega
        have hqi := hpq.out h0
        have hiq' : i ≤ q' := by have := Hqq.out; omega
        have Hiq' := Lib.hid hiq'
        have Hqi := Lib.hid hqi
        clear hqi hiq' h0 Hpl Hrp5 hpq hiq
        go_wp2_with (first | (at_builtin; go_loud (refine wpList_app_partsC _ rfl (.const (.slice none 0 0)) (.tmp 70) rfl w5.heap.size _ [] rfl (OwnP.nil _ _) A2 n2 c2 w5.heap.size (bk base l q q') rfl Hrd5.out hcl (Nat.le_refl _) ?_; intro v4 w4 q1 q2; have q1 : OwnP w4 w5.heap.size v4 (bk base l q q') := q1; obtain ⟨A4, c4, rfl⟩ := q1.form_ (n := N) HN.out.symm; have q3 := Lib.hid (Hbw5.out.trans (q2.mono Hbw5.out.size)); have q4 := Lib.hid (Hbv5.out.trans (q2.mono Hbv5.out.size)); have q5 := q1.rd Hsm.out; obtain ⟨A5, c5, q6, q7⟩ := q5; rw [← HN.out] at q6 q7; injection q6 with q8 q9 q10; subst q8; subst q10; have Hq7 := Lib.hid q7; clear q1 q2 q7)))
        go_wp2_with fail
        go_roundw
        case rel => exact ⟨p + 1, q', _, _, _, by omega, by go_num, rfl, Hnext, Hiq', Lib.hid (fun h => absurd h (by omega)), Lib.hid (fun _ => by rw [← Hqi.out]; exact Hq7.out), q3, q4⟩
        case measure => simp [intOf]; omega
      · have hz : ((p : Int) == 0) = false := by simp; omega
        have hco := comp_rdn _ _ A1 A2 n1 n2 c1 c2 w5 (Hrp5.out h0) Hrd5.out 0 (bk base l i q') Hpl.out.1 Hpl.out.2
        have hiq' : i ≤ q' := by have := Hqq.out; have := hiq.out; omega
        have Hiq' := Lib.hid hiq'
        have Hco := Lib.hid hco
        clear hco hiq' h0 Hpl Hrp5 hpq hiq Hrd5
        go_wp2_with fail
        refine Hco.out.mono ?_
        rintro e w6 ⟨A6, n6, c6, rfl, hr6, hb6⟩
        have Hr6 := Lib.hid hr6
        have q3 := Lib.hid (Hbw5.out.trans (hb6.mono Hbw5.out.size))
        have q4 := Lib.hid (Hbv5.out.trans (hb6.mono Hbv5.out.size))
        clear hr6 hb6 Hco
        go_wp2_with fail
        go_roundw
        case rel => exact ⟨p + 1, q', _, _, _, by omega, by go_num, rfl, Hnext, Hiq', Lib.hid (fun h => absurd h (by omega)), Lib.hid (fun _ => Hr6.out), q3, q4⟩
        case measure => simp [intOf]; omega
    · obtain rfl : p = n := by omega
      have hd : L.drop p = [] := List.drop_eq_nil_of_le (by have := Hnl.out; omega)
      have htl2 := htl.out
      rw [hd] at htl2
      have hqk : q = k := by simpa [tiles] using htl2
      have Hr := Lib.hid (hrp.out (by omega))
      rw [hqk] at Hr
      clear htl2 hd hqk htl hrp hpq hiq
      go_wp2_with fail
      go_ret2
      exact ⟨_, _, _, rfl, Hr.out, hbw.out⟩
end Go.Proofs.Ytfncpcmaplhojaa
namespace Go.Proofs.Ytfncpcmaplhojaa
open Go.ChangeShapes Go.WideShapes Go.RowKit
set_option linter.unusedVariables false
set_option linter.unusedSimpArgs false
set_option maxRecDepth 100000
set_option maxHeartbeats 4000000

theorem OwnTier.form {w : World} {B : Nat} {v : Value} {rs : List Value} {uss : List (List Value)} {lss : List (List (List Pt))} (h : OwnTier w B v rs uss lss) : ∃ A c, v = .slice A lss.length c := by
  have h1 := h.len1
  rcases h.own.2 with ⟨rfl, h0⟩ | ⟨g, cap, cur, rfl, _⟩
  · exact ⟨none, 0, by rw [← h1, h0]⟩
  · exact ⟨_, _, by rw [← h1]⟩
theorem OwnTier.stepA {w : World} {B : Nat} {v : Value} {rs : List Value} {uss : List (List Value)} {lss : List (List (List Pt))} (h : OwnTier w B v rs uss lss) (o : Obj) : OwnTier (w.alloc o) B v rs uss lss :=
  h.step ((Below.refl w.heap.size w).alloc (Nat.le_refl _) o)
/-- tier.Build of a good history, its slice with its length -/
theorem build_rd (base : ByteArray) (l : List Rv) (A : Option Addr) (n c : Nat) (w : World) (h : RdR w w.heap.size A n c l) (he : txE base l = 0) (m : Nat) (hm : (tiersL l).length = m) :
    Calls Try.prog 15 #[.string base, .slice A n c] w fun e w' => ∃ A1 c1 rs uss, e = .returned (.tuple #[.slice A1 m c1, .int .i64 0]) ∧ OwnTier w' w.heap.size (.slice A1 m c1) rs uss (tiersL l) ∧ Inc uss.flatten ∧ Below w.heap.size w w' := by
  refine (build_good base l A n c _ w h (Nat.le_refl _) he).mono ?_
  rintro e w' ⟨v, rs, uss, rfl, h1, h2, h3⟩
  obtain ⟨A1, c1, rfl⟩ := h1.form
  rw [hm] at h1 ⊢
  exact ⟨_, _, _, _, rfl, h1, h2, h3⟩
end Go.Proofs.Ytfncpcmaplhojaa
namespace Go.Proofs.Ytfncpcmaplhojaa
open Go.ChangeShapes Go.WideShapes Go.RowKit
set_option linter.unusedVariables false
set_option linter.unusedSimpArgs false
set_option maxRecDepth 100000
set_option maxHeartbeats 4000000

/-- a row of deltas, as it is read; P: which of them are right -/
def RowRd (w : World) (g : Nat) (ls : List (List Pt)) (P : Nat → Prop) : Prop := g < w.heap.size ∧ ∀ y (hy : y < ls.length), ∃ A2 n2 c2, w.cell? ⟨g, y, none⟩ = some (.slice A2 n2 c2) ∧ (P y → RdP w w.heap.size A2 n2 c2 ls[y])
theorem RowRd.step {w w' : World} {g : Nat} {ls : List (List Pt)} {P : Nat → Prop} (h : RowRd w g ls P) (hb : Below w.heap.size w w') : RowRd w' g ls P :=
  ⟨Nat.lt_of_lt_of_le h.1 hb.size, fun y hy => by
    obtain ⟨A2, n2, c2, h1, h2⟩ := h.2 y hy
    exact ⟨A2, n2, c2, (hb.cell h.1).trans h1, fun hp => (h2 hp).step hb⟩⟩
def TierRd (w : World) (A : Option Addr) (lss : List (List (List Pt))) (P : Nat → Nat → Prop) : Prop := ∀ x (hx : x < lss.length), ∃ g g1 c1, A = some ⟨g, 0, none⟩ ∧ g < w.heap.size ∧ w.cell? ⟨g, x, none⟩ = some (.slice (some ⟨g1, 0, none⟩) lss[x].length c1) ∧ lss[x].length ≤ c1 ∧ RowRd w g1 lss[x] (P x)
theorem TierRd.step {w w' : World} {A : Option Addr} {lss : List (List (List Pt))} {P : Nat → Nat → Prop} (h : TierRd w A lss P) (hb : Below w.heap.size w w') : TierRd w' A lss P := fun x hx => by
  obtain ⟨g, g1, c1, e, h1, h2, h3, h4⟩ := h x hx
  exact ⟨g, g1, c1, e, Nat.lt_of_lt_of_le h1 hb.size, (hb.cell h1).trans h2, h3, h4.step hb⟩
theorem eqrow_true (ls : List (List Pt)) (g g' n c c' : Nat) (w : World) (hn : n = ls.length) (hle : (n : Int) ≤ 9223372036854775807) (h : RowRd w g ls (fun _ => True)) (h' : RowRd w g' ls (fun _ => True)) :
    Calls Try.prog 68 #[.slice (some ⟨g, 0, none⟩) n c, .slice (some ⟨g', 0, none⟩) n c', .func (.func 18) #[] #[]] w fun e w' => e = .returned (.bool true) ∧ Below w.heap.size w w' := by
  have Hn := Lib.hid hn
  have H := Lib.hid h
  have H' := Lib.hid h'
  clear h h' hn
  go_enter Try.func68, Try.ntmps68
  go_wp2_with fail
  go_loopw [7, 8, 9, 17] (fun x y z i wr => ∃ (k : Nat), k ≤ n ∧ i = .int .i64 k ∧ Hid (Below w.heap.size w wr)) (fun _ _ _ i _ => n - (intOf i).toNat)
  case atStart => exact ⟨0, by omega, rfl, Lib.hid (Below.refl _ _)⟩
  case round =>
    obtain ⟨k, hk, rfl, hbw⟩ := hrel
    by_cases hlt : k < n
    · have hkl : k < ls.length := by have := Hn.out; omega
      obtain ⟨hg, h1⟩ := H.out.step hbw.out
      obtain ⟨hg', h1'⟩ := H'.out.step hbw.out
      obtain ⟨A1, n1, c1, d1, r1⟩ := h1 k hkl
      obtain ⟨A2, n2, c2, d2, r2⟩ := h1' k hkl
      have hc := same_true ls[k] ls[k] A1 A2 n1 n2 c1 c2 _ _ wr (r1 trivial) (r2 trivial) rfl
      have Hc := Lib.hid hc
      have hk0 : (0 : Int) ≤ (k : Int) := by omega
      have hkn : (k : Int) < (n : Int) := by omega
      clear hc r1 r2 h1 h1'
      go_wp2_with fail
      refine Hc.out.mono ?_
      rintro e w2 ⟨rfl, hb2⟩
      have hw2 := hbw.out.trans (hb2.mono hbw.out.size)
      clear hb2
      go_wp2_with fail
      go_roundw
      case rel => exact ⟨k + 1, by omega, by go_num, Lib.hid hw2⟩
      case measure => simp [intOf]; omega
    · obtain rfl : k = n := by omega
      go_wp2_with fail
      go_ret
      exact ⟨rfl, hbw.out⟩
theorem eqrow1_true (ls : List (List Pt)) (g g' n c c' : Nat) (w : World) (hn : n = ls.length) (hle : (n : Int) ≤ 9223372036854775807) (h : RowRd w g ls (fun _ => True)) (h' : RowRd w g' ls (fun _ => True)) :
    Calls Try.prog 67 #[.slice (some ⟨g, 0, none⟩) n c, .slice (some ⟨g', 0, none⟩) n c'] w fun e w' => e = .returned (.bool true) ∧ Below w.heap.size w w' := by
  have hc := eqrow_true ls g g' n c c' w hn hle h h'
  have Hc := Lib.hid hc
  clear hc h h' hn
  go_enter Try.func67, Try.ntmps67
  go_wp2_with fail
  refine Hc.out.mono ?_
  rintro e w1 ⟨rfl, hb⟩
  go_wp2_with fail
  go_ret
  exact ⟨rfl, hb⟩
theorem eqtiers_true (lss : List (List (List Pt))) (A A' : Option Addr) (n c c' : Nat) (w : World) (hn : n = lss.length) (hle : (n : Int) ≤ 9223372036854775807) (hls : ∀ x (hx : x < lss.length), (lss[x].length : Int) ≤ 9223372036854775807) (h : TierRd w A lss (fun _ _ => True)) (h' : TierRd w A' lss (fun _ _ => True)) :
    Calls Try.prog 66 #[.slice A n c, .slice A' n c', .func (.func 67) #[] #[]] w fun e w' => e = .returned (.bool true) ∧ Below w.heap.size w w' := by
  have Hn := Lib.hid hn
  have Hls := Lib.hid hls
  have H := Lib.hid h
  have H' := Lib.hid h'
  clear h h' hn hls
  go_enter Try.func66, Try.ntmps66
  go_wp2_with fail
  go_loopw [7, 8, 9, 17] (fun x y z i wr => ∃ (k : Nat), k ≤ n ∧ i = .int .i64 k ∧ Hid (Below w.heap.size w wr)) (fun _ _ _ i _ => n - (intOf i).toNat)
  case atStart => exact ⟨0, by omega, rfl, Lib.hid (Below.refl _ _)⟩
  case round =>
    obtain ⟨k, hk, rfl, hbw⟩ := hrel
    by_cases hlt : k < n
    · have hkl : k < lss.length := by have := Hn.out; omega
      obtain ⟨g, g1, c1, rfl, hg, d1, hc1, r1⟩ := (H.out.step hbw.out) k hkl
      obtain ⟨g', g1', c1', rfl, hg', d1', hc1', r1'⟩ := (H'.out.step hbw.out) k hkl
      obtain ⟨m, hm⟩ : ∃ m, lss[k].length = m := ⟨_, rfl⟩
      have hmle := Hls.out k hkl
      have hc := eqrow1_true lss[k] g1 g1' m c1 c1' wr hm.symm (by rw [← hm]; exact hmle) r1 r1'
      rw [hm] at d1 d1'
      have Hc := Lib.hid hc
      have hk0 : (0 : Int) ≤ (k : Int) := by omega
      have hkn : (k : Int) < (n : Int) := by omega
      clear hc r1 r1' hm hmle hc1 hc1'
      go_wp2_with fail
      refine Hc.out.mono ?_
      rintro e w2 ⟨rfl, hb2⟩
      have hw2 := hbw.out.trans (hb2.mono hbw.out.size)
      clear hb2
      go_wp2_with fail
      go_roundw
      case rel => exact ⟨k + 1, by omega, by go_num, Lib.hid hw2⟩
      case measure => simp [intOf]; omega
    · obtain rfl : k = n := by omega
      go_wp2_with fail
      go_ret
      exact ⟨rfl, hbw.out⟩
theorem sametiers_true (lss : List (List (List Pt))) (A A' : Option Addr) (n c c' : Nat) (w : World) (hn : n = lss.length) (hle : (n : Int) ≤ 9223372036854775807) (hls : ∀ x (hx : x < lss.length), (lss[x].length : Int) ≤ 9223372036854775807) (h : TierRd w A lss (fun _ _ => True)) (h' : TierRd w A' lss (fun _ _ => True)) :
    Calls Try.prog 30 #[.slice A n c, .slice A' n c'] w fun e w' => e = .returned (.bool true) ∧ Below w.heap.size w w' := by
  have hc := eqtiers_true lss A A' n c c' w hn hle hls h h'
  have Hc := Lib.hid hc
  clear hc h h' hn hls
  go_enter Try.func30, Try.ntmps30
  go_wp2_with fail
  refine Hc.out.mono ?_
  rintro e w1 ⟨rfl, hb⟩
  go_wp2_with fail
  go_ret
  exact ⟨rfl, hb⟩
/-- a tier of the call's own, as it is read -/
theorem OwnTier.rdT {w : World} {B m c : Nat} {A : Option Addr} {rs : List Value} {uss : List (List Value)} {lss : List (List (List Pt))} (h : OwnTier w B (.slice A m c) rs uss lss) (hp : ∀ x (hx : x < lss.length), 0 < lss[x].length) : TierRd w A lss (fun _ _ => True) := by
  intro x hx
  have h1 : lss[x]? = some lss[x] := List.getElem?_eq_getElem hx
  have hrl : x < rs.length := by rw [h.len1]; exact hx
  obtain ⟨g, cc, e0, _⟩ := World.ownsRow.form h.own (by omega)
  injection e0 with e1 e2 e3
  subst e1; subst e2
  have er : rs[x]? = some rs[x] := List.getElem?_eq_getElem hrl
  have hc := World.ownsRow.cellAt h.own x (by omega)
  rw [er] at hc
  have eu : uss[x]? = some (uss[x]'(by rw [h.len2]; exact hx)) := List.getElem?_eq_getElem _
  have ho := h.at_ x _ _ _ er eu h1
  obtain ⟨A1, c1, e⟩ := ho.form
  rw [e] at hc ho
  obtain ⟨g1, cc1, e4, _⟩ := World.ownsRow.form ho.1 (by rw [ho.2.len]; exact hp x hx)
  injection e4 with e5 e6 e7
  subst e5
  have hcap : lss[x].length ≤ c1 := by
    rcases ho.1.2 with ⟨h0, h9⟩ | ⟨g', cap, cur, h0, _, _, hnc, _⟩
    · simp at h0
    · injection h0 with _ _ h7
      rw [h7, ← ho.2.len]; exact hnc
  refine ⟨g, g1, c1, rfl, (World.ownsRow.lt h.own g rfl).2, hc, hcap, (World.ownsRow.lt ho.1 g1 rfl).2, fun y hy => ?_⟩
  obtain ⟨A2, n2, c2, _, k2, k3, _⟩ := ho.at_ y hy
  exact ⟨A2, n2, c2, k2, fun _ => k3⟩
theorem OwnTier.only {w w' : World} {B : Nat} {v : Value} {rs : List Value} {uss : List (List Value)} {lss : List (List (List Pt))} {S : Nat → Prop} (h : OwnTier w B v rs uss lss) (ho : Only w w' S) (hS : ∀ k, S k → k < B) : OwnTier w' B v rs uss lss := by
  refine ⟨own_only h.own ho fun k hk hs => ?_, h.len1, h.len2, fun j r us ls h1 h2 h3 => ⟨own_only (h.at_ j r us ls h1 h2 h3).1 ho fun k hk hs => ?_, (h.at_ j r us ls h1 h2 h3).2.len, fun i u l e1 e2 => ?_⟩⟩
  · have := own_ge h.own k hk; have := hS k hs; omega
  · have := own_ge (h.at_ j r us ls h1 h2 h3).1 k hk; have := hS k hs; omega
  · have hm := (h.at_ j r us ls h1 h2 h3).2.at_ i u l e1 e2
    exact hm.only ho fun k hk hs => by have := (hm.lt k hk).1; have := hS k hs; omega
/-- one of its deltas is spoilt: the others are as they were -/
theorem OwnTier.spoilt {w w' : World} {B m c : Nat} {A : Option Addr} {rs : List Value} {uss : List (List Value)} {lss : List (List (List Pt))} (h : OwnTier w B (.slice A m c) rs uss lss) (hp : ∀ x (hx : x < lss.length), 0 < lss[x].length) (hi : Inc uss.flatten)
    (i k : Nat) (us : List Value) (u : Value) (h1 : uss[i]? = some us) (h2 : us[k]? = some u) (ho : Only w w' (fun q => u.ownBlock = some q)) : TierRd w' A lss (fun x y => ¬ (x = i ∧ y = k)) := by
  obtain ⟨hi1, hi2⟩ := List.pairwise_flatten.1 hi
  obtain ⟨hil, ei⟩ := List.getElem?_eq_some_iff.1 h1
  obtain ⟨hkl, ek⟩ := List.getElem?_eq_some_iff.1 h2
  have hrs : rs[i]? = some (rs[i]'(by rw [h.len1, ← h.len2]; exact hil)) := List.getElem?_eq_getElem _
  have hlss : lss[i]? = some (lss[i]'(by rw [← h.len2]; exact hil)) := List.getElem?_eq_getElem _
  have hrow := h.at_ i _ _ _ hrs h1 hlss
  have hmu := hrow.2.at_ k u _ h2 (List.getElem?_eq_getElem (by rw [← hrow.2.len]; exact hkl))
  intro x hx
  obtain ⟨g, g1, c1, e, q1, q2, q3, q4, q5⟩ := h.rdT hp x hx
  subst e
  have hg : u.ownBlock ≠ some g := fun e => by
    have := own_ne_ hmu.own h.own (by decide)
    rw [e] at this
    rcases this with h9 | h9
    · cases h9
    · exact h9 rfl
  have er : rs[x]? = some (rs[x]'(by rw [h.len1]; exact hx)) := List.getElem?_eq_getElem _
  have eu : uss[x]? = some (uss[x]'(by rw [h.len2]; exact hx)) := List.getElem?_eq_getElem _
  have el : lss[x]? = some lss[x] := List.getElem?_eq_getElem hx
  have hox := h.at_ x _ _ _ er eu el
  obtain ⟨gg, cc, e0, _⟩ := World.ownsRow.form h.own (by rw [h.len1]; omega)
  injection e0 with e1 e2 e3
  injection e1 with e1
  injection e1 with e1
  subst e1
  subst e2
  have hcx := World.ownsRow.cellAt h.own x (by rw [h.len1]; omega)
  rw [er] at hcx
  rw [q2] at hcx
  injection hcx with hcx
  rw [← hcx] at hox
  have hg1 : u.ownBlock ≠ some g1 := fun e => by
    have := own_ne_ hmu.own hox.1 (by decide)
    rw [e] at this
    rcases this with h9 | h9
    · cases h9
    · exact h9 rfl
  have keep : ∀ q j, q < w.heap.size → u.ownBlock ≠ some q → w'.cell? ⟨q, j, none⟩ = w.cell? ⟨q, j, none⟩ := fun q j hq hn => by
    simp only [World.cell?]
    rw [ho.2.2.2.2 q hq hn]
  refine ⟨g, g1, c1, rfl, Nat.lt_of_lt_of_le q1 ho.2.2.2.1, (keep g x q1 hg).trans q2, q3, Nat.lt_of_lt_of_le q4 ho.2.2.2.1, fun y hy => ?_⟩
  obtain ⟨A2, n2, c2, z1, z2⟩ := q5 y hy
  refine ⟨A2, n2, c2, (keep g1 y q4 hg1).trans z1, fun hne => ?_⟩
  obtain ⟨A3, n3, c3, y1, y2, y3, y4⟩ := hox.at_ y hy
  rw [z1] at y2
  injection y2 with y2
  have hd : ∀ q, (Value.slice A3 n3 c3).ownBlock = some q → ¬ (u.ownBlock = some q) := fun q hq hu => by
    by_cases hxi : x = i
    · subst hxi
      have hux : uss[x]'(by rw [h.len2]; exact hx) = us := by rw [eu] at h1; exact Option.some.inj h1
      rw [hux] at y1
      have hyk : y ≠ k := fun e => hne ⟨rfl, e⟩
      obtain ⟨hyl, ey⟩ := List.getElem?_eq_some_iff.1 y1
      have hpw := hi1 us (by rw [← ei]; exact List.getElem_mem hil)
      rcases Nat.lt_or_ge y k with hlt | hge
      · have := List.pairwise_iff_getElem.1 hpw y k hyl hkl hlt q q (by rw [ey]; exact hq) (by rw [ek]; exact hu)
        omega
      · have := List.pairwise_iff_getElem.1 hpw k y hkl hyl (by omega) q q (by rw [ek]; exact hu) (by rw [ey]; exact hq)
        omega
    · have hxl : x < uss.length := by rw [h.len2]; exact hx
      have m1 : Value.slice A3 n3 c3 ∈ uss[x] := List.mem_of_getElem? y1
      have m2 : u ∈ uss[i] := by rw [ei]; exact List.mem_of_getElem? h2
      rcases Nat.lt_or_ge x i with hlt | hge
      · have := List.pairwise_iff_getElem.1 hi2 x i hxl hil hlt _ m1 _ m2 q q hq hu
        omega
      · have := List.pairwise_iff_getElem.1 hi2 i x hil hxl (by omega) _ m2 _ m1 q q hu hq
        omega
  have hm := y4.only ho hd
  obtain ⟨A4, c4, e4, r4⟩ := hm.rd
  rw [← y2] at e4
  injection e4 with e5 e6 e7
  subst e5; subst e6; subst e7
  exact r4
end Go.Proofs.Ytfncpcmaplhojaa
namespace Go.Proofs.Ytfncpcmaplhojaa
open Go.ChangeShapes Go.WideShapes Go.RowKit
set_option linter.unusedVariables false
set_option linter.unusedSimpArgs false
set_option maxRecDepth 100000
set_option maxHeartbeats 4000000

theorem samerev_true (a b : Int) (d : List Pt) (A A' : Option Addr) (n n' c c' : Nat) (w : World) (h : RdP w w.heap.size A n c d) (h' : RdP w w.heap.size A' n' c' d) :
    Calls Try.prog 27 #[.agg #[.int .i64 a, .int .i64 b, .slice A n c], .agg #[.int .i64 a, .int .i64 b, .slice A' n' c']] w fun e w' => e = .returned (.bool true) ∧ Below w.heap.size w w' := by
  have hb1 := (Below.refl w.heap.size w).alloc (Nat.le_refl _) (.cells #[.int .i64 a, .int .i64 b, .slice A n c] 29)
  have hb0 := hb1.alloc hb1.size (.cells #[.int .i64 a, .int .i64 b, .slice A' n' c'] 29)
  have hc := same_true d d A A' n n' c c' _ _ _ ((h.stepA (.cells #[.int .i64 a, .int .i64 b, .slice A n c] 29)).stepA (.cells #[.int .i64 a, .int .i64 b, .slice A' n' c'] 29)) ((h'.stepA (.cells #[.int .i64 a, .int .i64 b, .slice A n c] 29)).stepA (.cells #[.int .i64 a, .int .i64 b, .slice A' n' c'] 29)) rfl
  have Hc := Lib.hid hc
  clear hc h h' hb1
  go_enter Try.func27, Try.ntmps27
  go_wp2_with fail
  refine Hc.out.mono ?_
  rintro e w1 ⟨rfl, hb⟩
  have hw := hb0.trans (hb.mono hb0.size)
  go_wp2_with fail
  go_ret
  exact ⟨rfl, hw⟩
theorem eqrevs_true (l : List Rv) (A A' : Option Addr) (n n' c c' : Nat) (w : World) (h : RdR w w.heap.size A n c l) (h' : RdR w w.heap.size A' n' c' l) :
    Calls Try.prog 77 #[.slice A n c, .slice A' n' c', .func (.func 27) #[] #[]] w fun e w' => e = .returned (.bool true) ∧ Below w.heap.size w w' := by
  obtain rfl : n' = n := by rw [h'.1, h.1]
  have hle := h.le
  have Hn := Lib.hid h.1
  have H := Lib.hid h
  have H' := Lib.hid h'
  clear h h'
  go_enter Try.func77, Try.ntmps77
  go_wp2_with fail
  go_loopw [7, 8, 9, 17] (fun x y z i wr => ∃ (k : Nat), k ≤ n' ∧ i = .int .i64 k ∧ Hid (Below w.heap.size w wr)) (fun _ _ _ i _ => n' - (intOf i).toNat)
  case atStart => exact ⟨0, by omega, rfl, Lib.hid (Below.refl _ _)⟩
  case round =>
    obtain ⟨k, hk, rfl, hbw⟩ := hrel
    by_cases hlt : k < n'
    · have hkl : k < l.length := by have := Hn.out; omega
      obtain ⟨g, o, A1, n1, c1, rfl, hg, d0, d1, d2, hrd⟩ := (H.out.below hbw.out).at_ k hlt
      obtain ⟨g', o', A2, n2, c2, rfl, hg', d0', d1', d2', hrd'⟩ := (H'.out.below hbw.out).at_ k hlt
      obtain ⟨p, hp⟩ : ∃ p, p = l[k] := ⟨_, rfl⟩
      rw [← hp] at d0 d1 hrd d0' d1' hrd'
      clear hp
      obtain ⟨ra, rb, d⟩ := p
      simp only at d0 d1 d2 hrd d0' d1' d2' hrd'
      have hk0 : (0 : Int) ≤ (k : Int) := by omega
      have hkn : (k : Int) < (n' : Int) := by omega
      have hws := hbw.out.size
      have hgw : g < wr.heap.size := by omega
      have hgw' : g' < wr.heap.size := by omega
      have hb1 := (Below.refl wr.heap.size wr).alloc (Nat.le_refl _) (.cells #[.int .i64 ra, .int .i64 rb, .slice A1 n1 c1] 29)
      have hb0 := hb1.alloc hb1.size (.cells #[.int .i64 ra, .int .i64 rb, .slice A2 n2 c2] 29)
      have hc := samerev_true ra rb d A1 A2 n1 n2 c1 c2 _ (((hrd.more hws).stepA (.cells #[.int .i64 ra, .int .i64 rb, .slice A1 n1 c1] 29)).stepA (.cells #[.int .i64 ra, .int .i64 rb, .slice A2 n2 c2] 29)) (((hrd'.more hws).stepA (.cells #[.int .i64 ra, .int .i64 rb, .slice A1 n1 c1] 29)).stepA (.cells #[.int .i64 ra, .int .i64 rb, .slice A2 n2 c2] 29))
      have Hc := Lib.hid hc
      have Hb0 := Lib.hid hb0
      clear hc hrd hrd' hb1 hb0 hws
      go_wp2_with fail
      refine Hc.out.mono ?_
      rintro e w2 ⟨rfl, hb2⟩
      have hw2 := hbw.out.trans ((Hb0.out.trans (hb2.mono Hb0.out.size)).mono hbw.out.size)
      clear hb2
      go_wp2_with fail
      go_roundw
      case rel => exact ⟨k + 1, by omega, by go_num, Lib.hid hw2⟩
      case measure => simp [intOf]; omega
    · obtain rfl : k = n' := by omega
      go_wp2_with fail
      go_ret
      exact ⟨rfl, hbw.out⟩
theorem samerevs_true (l : List Rv) (A A' : Option Addr) (n n' c c' : Nat) (w : World) (h : RdR w w.heap.size A n c l) (h' : RdR w w.heap.size A' n' c' l) :
    Calls Try.prog 39 #[.slice A n c, .slice A' n' c'] w fun e w' => e = .returned (.bool true) ∧ Below w.heap.size w w' := by
  have hc := eqrevs_true l A A' n n' c c' w h h'
  have Hc := Lib.hid hc
  clear hc h h'
  go_enter Try.func39, Try.ntmps39
  go_wp2_with fail
  refine Hc.out.mono ?_
  rintro e w1 ⟨rfl, hb⟩
  go_wp2_with fail
  go_ret
  exact ⟨rfl, hb⟩
end Go.Proofs.Ytfncpcmaplhojaa
namespace Go.Proofs.Ytfncpcmaplhojaa
open Go.ChangeShapes Go.WideShapes Go.RowKit
set_option linter.unusedVariables false
set_option linter.unusedSimpArgs false
set_option maxRecDepth 100000
set_option maxHeartbeats 4000000

theorem Blk.row {w : World} {g : Nat} {t : TypeId} {cs : Array Value} (h : Blk w g t cs) (cs' : Array Value) : Blk (w.setRow g cs') g t cs' := setRow_heap w g cs cs' t (0, 0) h
theorem Blk.farRow {w : World} {g g' : Nat} {t : TypeId} {cs : Array Value} (h : Blk w g t cs) (hne : g ≠ g') (cs' : Array Value) : Blk (w.setRow g' cs') g t cs := (setRow_other w g' g cs' hne).trans h
theorem Only.setRow (w : World) (g : Nat) (cs : Array Value) : Only w (w.setRow g cs) (fun k => k = g) := ⟨rfl, rfl, rfl, by simp, fun k hk hn => setRow_other w g k cs hn⟩
theorem below_setRow {B : Nat} {w w' : World} (h : Below B w w') (g : Nat) (cs : Array Value) (hg : B ≤ g) : Below B w (w'.setRow g cs) :=
  ⟨h.os, h.tape, h.output, by simp; exact h.size, fun k hk => (setRow_other w' g k cs (by omega)).trans (h.block k hk)⟩
/-- a function's end: one result lies in block g -/
theorem row_end1 {fn : Func} {R : Ending → World → Prop} {a : Act} {W : World} {g : Nat} {ty : TypeId} {cs : Array Value} {p : Tmp} (hres : fn.results = #[.cell p ty])
    (hp : a.tmps.getD p undef = .pointer (some ⟨g, 0, none⟩)) (hd : a.defers = []) (hl : (loadVar ty ⟨g, 0, none⟩).run Try.prog W = .ok (.agg cs) W)
    (hR : R (.returned (.agg cs)) W) : bodyPost Try.prog fn R .ret a W := by
  refine bodyPost_ret (v := .agg cs) ?_ hd hR
  have hp' : a.tmps[p]?.getD undef = .pointer (some ⟨g, 0, none⟩) := by simpa using hp
  simp [results, hres, hp', asAddr, hl]
theorem row_end2 {fn : Func} {R : Ending → World → Prop} {a : Act} {W : World} {g : Nat} {ty : TypeId} {cs : Array Value} {p q : Tmp} {u : Value} (hres : fn.results = #[.cell p ty, .tmp q])
    (hp : a.tmps.getD p undef = .pointer (some ⟨g, 0, none⟩)) (hq : a.tmps.getD q undef = u) (hd : a.defers = []) (hl : (loadVar ty ⟨g, 0, none⟩).run Try.prog W = .ok (.agg cs) W)
    (hR : R (.returned (.tuple #[.agg cs, u])) W) : bodyPost Try.prog fn R .ret a W := by
  refine bodyPost_ret (v := .tuple #[.agg cs, u]) ?_ hd hR
  rw [results_cell_tmp hres, hp, hq]
  simp [asAddr, hl]
/-- a whole struct is loaded -/
theorem wpList_load_blk {ops : Array Oper} {rest : List Oper} {o : Oper} {a : Act} {w : World} {Q : Exit → Act → World → Prop} (hgd : o.guard = none) (ty : TypeId) (x : Operand) (ho : o.op = .load ty x)
    (g : Nat) (hx : a.eval x = .pointer (some ⟨g, 0, none⟩)) (cs : Array Value) (hl : (loadVar ty ⟨g, 0, none⟩).run Try.prog w = .ok (.agg cs) w)
    (h : wpList Try.prog ops Q rest (a.put o.dst (.agg cs)) w) : wpList Try.prog ops Q (o :: rest) a w :=
  wpList_plain hgd fun _ hK => by
    unfold Oper.wp execOp
    simp only [ho, hx, Instr.loadAt, Instr.sureAddr, Sem.run_bind, Sem.run_pure, Result.andThen_ok, hl]
    exact hK _ _ h
/-- a whole struct is stored -/
theorem wpList_store_blk {ops : Array Oper} {rest : List Oper} {o : Oper} {a : Act} {w : World} {Q : Exit → Act → World → Prop} (hgd : o.guard = none) (ty : TypeId) (x y : Operand) (ho : o.op = .store ty x y)
    (g : Nat) (cells : Array Value) (hx : a.eval x = .pointer (some ⟨g, 0, none⟩)) (hy : a.eval y = .agg cells)
    (t : TypeId) (old : Array Value) (hg : Blk w g t old) (hi : (Try.prog.info? ty).map (·.size) = some cells.size)
    (hold : old.size = cells.size) (h1 : cells.all (·.oneCell') = true)
    (h : wpList Try.prog ops Q rest (a.put o.dst undef) (w.setRow g cells)) : wpList Try.prog ops Q (o :: rest) a w :=
  wpList_store_row hgd ty x y ho g cells hx hy t old hg hi hold h1 h
/-- a struct is put together -/
theorem wpList_built {ops : Array Oper} {rest : List Oper} {o : Oper} {a : Act} {w : World} {Q : Exit → Act → World → Prop} (hgd : o.guard = none) (t : TypeId) (parts : Array (Nat × Operand)) (ho : o.op = .build t parts) (cells : Array Value)
    (hf : Try.prog.built t (parts.map fun (i, x) => (i, a.eval x)).toList = some cells)
    (h : wpList Try.prog ops Q rest (a.put o.dst (.agg cells)) w) : wpList Try.prog ops Q (o :: rest) a w :=
  wpList_build hgd t parts ho (by rw [hf]; rfl) (by rw [hf]; exact h)
/-- a whole struct is stored, in a region that draws -/
theorem step_store_blk {ops : Array Oper} {o : Oper} {a : Act} {K : Act → World → Prop} {Q : Exit → Act → World → Prop} {E : Prop} {w : World} (hgd : o.guard = none) (ty : TypeId) (x y : Operand) (ho : o.op = .store ty x y)
    (g : Nat) (cells : Array Value) (hx : a.eval x = .pointer (some ⟨g, 0, none⟩)) (hy : a.eval y = .agg cells)
    (t : TypeId) (old : Array Value) (hg : Blk w g t old) (hi : (Try.prog.info? ty).map (·.size) = some cells.size)
    (hold : old.size = cells.size) (h1 : cells.all (·.oneCell') = true)
    (h : K (a.put o.dst undef) (w.setRow g cells)) : if Region.wanted o (yielded ops a.tmps) = true then Oper.wp Try.prog o a w K Q else E := by
  have hw : Region.wanted o (yielded ops a.tmps) = true := by simp [Region.wanted, hgd]
  rw [if_pos hw]
  exact wp_store_row ty x y ho g cells hx hy t old hg hi hold h1 h
/-- a whole struct is loaded, in a region whose tail alone writes -/
theorem wpStill_load_blk {ops : Array Oper} {rest : List Oper} {o : Oper} {a : Act} {w : World} {Q : Act → Prop} (hgd : o.guard = none) (ty : TypeId) (x : Operand) (ho : o.op = .load ty x)
    (g : Nat) (hx : a.eval x = .pointer (some ⟨g, 0, none⟩)) (cs : Array Value) (hl : (loadVar ty ⟨g, 0, none⟩).run Try.prog w = .ok (.agg cs) w)
    (h : wpStill Try.prog ops w Q rest (a.put o.dst (.agg cs))) : wpStill Try.prog ops w Q (o :: rest) a := by
  refine wpStill_step (fun K hK => ?_)
  have hw : Region.wanted o (yielded ops a.tmps) = true := by simp [Region.wanted, hgd]
  rw [if_pos hw]
  unfold Oper.still execOp
  simp only [ho, hx, Instr.loadAt, Instr.sureAddr, Sem.run_bind, Sem.run_pure, Result.andThen_ok, hl, Oper.stillUpon]
  exact ⟨trivial, hK _ h⟩
theorem exec_load_blk {o : Oper} {a : Act} {w : World} (ty : TypeId) (x : Operand) (ho : o.op = .load ty x) (g : Nat) (hx : a.eval x = .pointer (some ⟨g, 0, none⟩)) (cs : Array Value)
    (hl : (loadVar ty ⟨g, 0, none⟩).run Try.prog w = .ok (.agg cs) w) : (execOp a.eval o).run Try.prog w = .ok (.value (.agg cs)) w := by
  unfold execOp
  simp only [ho, hx, Instr.loadAt, Instr.sureAddr, Sem.run_bind, Sem.run_pure, Result.andThen_ok, hl]
theorem wpAnyH_takeD {ops : Array Oper} {Q : Exit → Act → World → Prop} {md : Region.Mode} {S : World → Prop} {i : Nat} (t : Nat) {oi : Oper} {v : Value} {fuel : Nat} {listed : Array Bool} {a : Act} {w : World} (hi : ops[i]? = some oi) (hd : oi.dst = some t)
    (hs : Region.noSelect ops = true) (hf : Region.free md ops listed i = true) (hr : (Region.ready md ops listed).contains i = true)
    (hQ : ∀ c a w, Q (.panic c) (a.put (some t) v) w → Q (.panic c) a w) (hy : YieldsIf Try.prog ops S oi v a) (hS : S w)
    (h : wpAnyH Try.prog md ops Q S fuel (listed.setIfInBounds i true) (a.put (some t) v) w) : wpAnyH Try.prog md ops Q S (fuel + 1) listed a w :=
  wpAnyH_take hi hs hf hr (by rw [hd]; exact hQ) hy hS (by rw [hd]; exact h)
theorem wpOp_enter {ops : Array Oper} {i : Nat} (t : Nat) {o : Oper} {a : Act} {w : World} {K : Act → World → Prop} {Q : Exit → Act → World → Prop} (hi : ops[i]? = some o) (hw : Region.wanted o (yielded ops a.tmps) = true) (hd : o.dst = some t) (f : FuncId) (vs : Array Value)
    (hx : (execOp a.eval o).run Try.prog w = .ok (.enter f vs) w) (v : Value) (R : World → Prop) (hc : Calls Try.prog f vs w (fun e w' => e = .returned v ∧ R w')) (h : ∀ w', R w' → K (a.put (some t) v) w') : wpOp Try.prog ops Q i K a w := by
  unfold wpOp
  simp only [hi, hw, if_true]
  refine .inl ?_
  unfold Oper.wp
  rw [hx]
  simp only [Oper.upon]
  refine hc.mono ?_
  rintro e w' ⟨rfl, hr⟩
  rw [hd]
  exact h _ hr
theorem wpOp_store_blk {ops : Array Oper} {i : Nat} {o : Oper} {a : Act} {w : World} {K : Act → World → Prop} {Q : Exit → Act → World → Prop} (hi : ops[i]? = some o) (hgd : o.guard = none) (hd : o.dst = none) (ty : TypeId) (x y : Operand) (ho : o.op = .store ty x y)
    (g : Nat) (cells : Array Value) (hx : a.eval x = .pointer (some ⟨g, 0, none⟩)) (hy : a.eval y = .agg cells)
    (t : TypeId) (old : Array Value) (hg : Blk w g t old) (hinf : (Try.prog.info? ty).map (·.size) = some cells.size)
    (hold : old.size = cells.size) (h1 : cells.all (·.oneCell') = true)
    (h : K a (w.setRow g cells)) : wpOp Try.prog ops Q i K a w := by
  unfold wpOp
  have hw : Region.wanted o (yielded ops a.tmps) = true := by simp [Region.wanted, hgd]
  simp only [hi, hw, if_true]
  exact .inl (wp_store_row ty x y ho g cells hx hy t old hg hinf hold h1 (by rw [hd]; exact h))
/-- cells in the middle of a row are stored anew -/
def setL : Array Value → Nat → List Value → Array Value
  | cs, _, [] => cs
  | cs, o, v :: r => setL (cs.setIfInBounds o v) (o + 1) r
theorem Blk.setMany {w : World} {g : Nat} {t : TypeId} : ∀ (vs : List Value) (o : Nat) (w : World) (cs : Array Value), Blk w g t cs → Blk (w.setCells g o vs) g t (setL cs o vs)
  | [], o, w, cs, h => h
  | v :: r, o, w, cs, h => Blk.setMany (w := w) r (o + 1) _ _ (h.set_ o v)
theorem Blk.farMany {g g' : Nat} {t : TypeId} {cs : Array Value} (hne : g ≠ g') : ∀ (vs : List Value) (o : Nat) (w : World), Blk w g t cs → Blk (w.setCells g' o vs) g t cs
  | [], o, w, h => h
  | v :: r, o, w, h => Blk.farMany hne r (o + 1) _ (h.far (p := ⟨g', o, none⟩) hne v)
theorem Only.setMany (g : Nat) : ∀ (vs : List Value) (o : Nat) (w : World), Only w (w.setCells g o vs) (fun k => k = g)
  | [], o, w => Only.refl _ _
  | v :: r, o, w => (Only.setSelf w g o v).trans (Only.setMany g r (o + 1) _)
theorem Blk.range {w : World} {g o : Nat} {t : TypeId} {cs : Array Value} {vs : List Value} (h : Blk w g t cs) (hv : ∀ j v, vs[j]? = some v → cs[o + j]? = some v) : w.rangeAt g o vs :=
  fun j v hj => (h.cell (o + j)).trans (hv j v hj)
theorem Blk.there {w : World} {g o n : Nat} {t : TypeId} {cs : Array Value} (h : Blk w g t cs) (hn : o + n ≤ cs.size) : w.there g o n := fun j hj => by
  refine ⟨?_, h.frozen (o + j)⟩
  rw [h.cell, Array.getElem?_eq_getElem (by omega)]
  rfl
theorem setL_mid : ∀ (vs M P R : List Value), vs.length = M.length → setL (P ++ (M ++ R)).toArray P.length vs = (P ++ (vs ++ R)).toArray
  | [], [], P, R, _ => rfl
  | [], _ :: _, P, R, h => by simp at h
  | _ :: _, [], P, R, h => by simp at h
  | v :: vs, m :: M, P, R, h => by
    have e : (P ++ (m :: M ++ R)).toArray.setIfInBounds P.length v = ((P ++ [v]) ++ (M ++ R)).toArray := by
      simp [List.set_append_right]
    have := setL_mid vs M (P ++ [v]) R (by simpa using h)
    rw [setL, e]
    rw [List.length_append, List.length_singleton] at this
    rw [this]
    simp
end Go.Proofs.Ytfncpcmaplhojaa
namespace Go.Proofs.Ytfncpcmaplhojaa
open Go.ChangeShapes Go.WideShapes Go.RowKit
set_option linter.unusedVariables false
set_option linter.unusedSimpArgs false
set_option maxRecDepth 100000
set_option maxHeartbeats 4000000

/-- the bytes of a number: seven bits a byte, the lowest first -/
def vi (n : Nat) : List UInt8 :=
  if n < 128 then [UInt8.ofNat n] else UInt8.ofNat (n % 128 + 128) :: vi (n / 128)

theorem vi_lt (n : Nat) (h : n < 128) : vi n = [UInt8.ofNat n] := by rw [vi, if_pos h]
theorem vi_ge (n : Nat) (h : 128 ≤ n) : vi n = UInt8.ofNat (n % 128 + 128) :: vi (n / 128) := by rw [vi, if_neg (by omega)]
theorem vi_len (k : Nat) : ∀ n : Nat, n < 128 ^ k → 0 < k → (vi n).length ≤ k := by
  induction k with
  | zero => intro n _ h; omega
  | succ k ih =>
    intro n h _
    by_cases h1 : n < 128
    · rw [vi_lt n h1]; simp
    · rw [vi_ge n (by omega)]
      have : n / 128 < 128 ^ k := by rw [Nat.pow_succ] at h; omega
      have h2 : 0 < k := by
        rcases Nat.eq_zero_or_pos k with h0 | h0
        · subst h0; simp at this; omega
        · exact h0
      have := ih (n / 128) this h2
      simp; omega
theorem vi_pos (n : Nat) : 0 < (vi n).length := by
  by_cases h1 : n < 128
  · rw [vi_lt n h1]; simp
  · rw [vi_ge n (by omega)]; simp

theorem or128 (k : Nat) (h : k < 256) : bits BinOp.or IntKind.u8 (k : Int) 128 = ((k % 128 + 128 : Nat) : Int) := by
  have : ∀ k : Fin 256, bits BinOp.or IntKind.u8 (k.val : Int) 128 = ((k.val % 128 + 128 : Nat) : Int) := by decide +kernel
  exact this ⟨k, h⟩
theorem or128' (m : Nat) : Value.int IntKind.u8 (bits BinOp.or IntKind.u8 ((m : Int) % 256) 128) = u8v (UInt8.ofNat (m % 128 + 128)) := by
  rw [show ((m : Int) % 256) = ((m % 256 : Nat) : Int) by omega, or128 _ (by omega)]
  unfold u8v
  congr 1
  simp [UInt8.toNat_ofNat']
  omega
theorem u8v_of (m : Nat) (h : m < 256) : u8v (UInt8.ofNat m) = .int .u8 m := by
  unfold u8v
  congr 1
  simp [UInt8.toNat_ofNat']
  omega

theorem put_bad (n : Int) (w : World) (h : n < 0 ∨ 2147483647 < n) :
    Calls Try.prog 102 #[.int .i64 n] w fun e w' => e = .returned (.tuple #[.string ⟨#[]⟩, .int .i64 1]) ∧ w = w' := by
  by_cases h0 : n < 0
  · go_enter Try.func102, Try.ntmps102
    go_wp2
    go_ret2
    exact ⟨rfl, rfl⟩
  · have h1 : 2147483647 < n := by omega
    go_enter Try.func102, Try.ntmps102
    go_wp2
    go_ret2
    exact ⟨rfl, rfl⟩

theorem put_good (n : Nat) (w : World) (h : (n : Int) ≤ 2147483647) :
    Calls Try.prog 102 #[.int .i64 n] w fun e w' => e = .returned (.tuple #[.string ⟨(vi n).toArray⟩, .int .i64 0]) ∧ Below w.heap.size w w' := by
  have hl := vi_len 5 n (by omega) (by omega)
  go_enter Try.func102, Try.ntmps102
  go_wp2_with fail
  go_loopw [0, 4] (fun n' v wr => ∃ (m : Nat) (acc : List UInt8), n' = .int .i64 m ∧ (m : Int) ≤ 2147483647 ∧ Hid (acc ++ vi m = vi n) ∧ acc.length ≤ 5 ∧ OwnU8 wr w.heap.size v acc ∧ Below w.heap.size w wr)
    (fun n' _ _ => (intOf n').toNat)
  case atStart => exact ⟨n, [], rfl, h, Lib.hid rfl, by simp, OwnU8.nil _ _, Below.refl _ _⟩
  case round =>
    obtain ⟨m, acc, rfl, hm, hv, hacc, hown, hbel⟩ := hrel
    have hB := hbel.size
    by_cases hlt : (m : Int) < 128
    · go_wp2_with (first | (at_builtin; refine wpList_app_u8 _ rfl (.tmp 21) (.tmp 24) rfl w.heap.size _ acc rfl hown _ _ rfl (UInt8.ofNat m) ?_ (by omega) hB ?_; rotate_left; intro v1 w1 hown1 hb1 _ _; have hcv := run_string_own hown1))
      · go_ret2
        refine ⟨?_, hbel.trans hb1⟩
        rw [← hv.out, vi_lt m (by omega)]
        rfl
      · exact (u8v_of m (by omega)).symm
    · go_wp2_with (first | (at_builtin; refine wpList_app_u8 _ rfl (.tmp 13) (.tmp 17) rfl w.heap.size _ acc rfl hown _ _ rfl (UInt8.ofNat (m % 128 + 128)) ?_ (by omega) hB ?_; rotate_left; intro v1 w1 hown1 hb1 _ _))
      · have hc : Hid ((acc ++ [UInt8.ofNat (m % 128 + 128)]) ++ vi (m / 128) = vi n) := by
          have := hv.out
          rw [vi_ge m (by omega)] at this
          exact Lib.hid (by simpa using this)
        have hlen : (acc ++ [UInt8.ofNat (m % 128 + 128)]).length ≤ 5 := by
          have h1 := congrArg List.length hc.out
          have h2 := vi_pos (m / 128)
          simp only [List.length_append] at h1 ⊢
          omega
        go_roundw
        case rel => exact ⟨m / 128, _, by go_num, by omega, hc, hlen, hown1, hbel.trans hb1⟩
        case measure => simp [intOf]; omega
      · simpa using or128' m
end Go.Proofs.Ytfncpcmaplhojaa
