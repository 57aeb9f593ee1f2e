/- Contract of tier.Between. Small laws for the laws over tiers. Contracts of package keep. Slices of ints, and a policy, opened. -/
import Derived.Test.YtcdielgpmnhmjaaMTopTiers2
import Derived.Test.YtcdielgpmnhmjaaK12
import Derived.Test.YtcdielgpmnhmjaaK18
import Derived.OpenShut
namespace Go.Proofs.Ytcdielgpmnhmjaa
open Go.ChangeShapes Go.WideShapes Go.RowKit
set_option linter.unusedVariables false
set_option linter.unusedSimpArgs false
set_option maxRecDepth 100000
set_option maxHeartbeats 4000000

theorem _root_.Go.RowKit.Below.drewNt {B : Nat} {a w : World} (h : Below B a w) (n : Nat) : Below B a (w.drewN n) := ⟨h.os, h.tape, h.output, h.size, h.block⟩
theorem tbetween_same (A : Option Addr) (m c i : Nat) (w : World) (hi : i ≤ 64) :
    Calls Try.prog 47 #[.slice A m c, .int .i64 i, .int .i64 i] w fun e w' => e = .returned (.tuple #[.slice none 0 0, .int .i64 1]) ∧ Below w.heap.size w w' := by
  have hc := cover_good i i w (by omega) (by omega)
  have Hc := Lib.hid hc
  clear hc
  go_enter Try.func47, Try.ntmps47
  go_wp2_with fail
  refine Hc.out.mono ?_
  rintro e w1 ⟨v, rfl, _, hb⟩
  go_wp2_with fail
  go_ret2
  exact ⟨rfl, hb⟩
theorem tbetween_good (base : ByteArray) (l : List Rv) (he : txE base l = 0) (A : Option Addr) (m c B : Nat) (rs : List Value) (uss : List (List Value)) (i k : Nat) (w : World) (h : OwnTier w B (.slice A m c) rs uss (tiersL l)) (hik : i < k) (hk : k ≤ l.length) :
    Calls Try.prog 47 #[.slice A m c, .int .i64 i, .int .i64 k] w fun e w' => ∃ A1 n1 c1, e = .returned (.tuple #[.slice A1 n1 c1, .int .i64 0]) ∧ RdP w' w'.heap.size A1 n1 c1 (bk base l i k) ∧ Below w.heap.size w w' := by
  have hl := (txE_parts he).2.1
  have hc := cover_good i k w (by omega) (by omega)
  have Hc := Lib.hid hc
  have H := Lib.hid h
  have He := Lib.hid he
  obtain ⟨ht, hn⟩ := tiles_all ⟨k, by omega⟩ ⟨i, by omega⟩ (by simp only; omega)
  simp only at ht hn
  have hbit := bitsOf_le (k - i)
  obtain ⟨L, hL⟩ : ∃ L, coverL 65 i k = L := ⟨_, rfl⟩
  rw [hL] at ht hn Hc
  have Ht := Lib.hid ht
  have hn20 : L.length ≤ 20 := by omega
  have hne : ((i : Int) == (k : Int)) = false := by simp; omega
  clear hc h he ht hn hL hbit
  go_enter Try.func47, Try.ntmps47
  go_wp2_with fail
  refine Hc.out.mono ?_
  rintro e w1 ⟨v, rfl, hown, hb1⟩
  obtain ⟨Ac, cc, rfl, hrd⟩ := Rd.own hown
  obtain ⟨n, hnl⟩ : ∃ n, L.length = n := ⟨_, rfl⟩
  rw [hnl] at hrd hn20 ⊢
  have hle : 1 ≤ n := by
    rcases Nat.eq_zero_or_pos n with h0 | h0
    · have h1 : L = [] := List.eq_nil_of_length_eq_zero (by omega)
      have := Ht.out
      rw [h1] at this
      simp [tiles] at this
      omega
    · exact h0
  have Hnl := Lib.hid hnl
  have Hrd := Lib.hid hrd
  have hkl : (k : Int) ≤ 64 := by omega
  have Hik := Lib.hid hik
  have Hk := Lib.hid hk
  have Hb1 := Lib.hid hb1
  have Hne := Lib.hid hne
  clear hown hnl hrd Hc hb1 hik hk
  go_wp2_with fail
  clear hne
  go_loopw [9, 10, 11, 12, 13, 14, 33] (fun ev ov nv bv dv fv pv wr => ∃ (p q : Nat) (A1 : Option Addr) (n1 c1 : Nat), p ≤ n ∧ pv = .int .i64 p ∧ ov = .slice A1 n1 c1 ∧ Hid (tiles q (L.drop p) = some k) ∧ Hid (i ≤ q) ∧ Hid (p = 0 → q = i) ∧ Hid (0 < p → RdP wr wr.heap.size A1 n1 c1 (bk base l i q)) ∧ Hid (Below w.heap.size w wr) ∧ Hid (Below w1.heap.size w1 wr)) (fun _ _ _ _ _ _ pv _ => 30 - (intOf pv).toNat)
  case atStart => exact ⟨0, i, none, 0, 0, by omega, rfl, rfl, Ht, Lib.hid (Nat.le_refl _), Lib.hid (fun _ => rfl), Lib.hid (fun h => absurd h (by omega)), Hb1, Lib.hid (Below.refl _ _)⟩
  case round =>
    obtain ⟨p, q, A1, n1, c1, hp, rfl, rfl, htl, hiq, hpq, hrp, hbw, hbv⟩ := hrel
    by_cases hlt : p < n
    · have hpl : p < L.length := by have := Hnl.out; omega
      have htl2 := htl.out
      rw [List.drop_eq_getElem_cons hpl] at htl2
      obtain ⟨hx6, hq, hy64, hnext⟩ := tiles_cons _ _ _ _ htl2
      obtain ⟨b, o, rfl, hbb, hcc⟩ := (Hrd.out.below hbv.out).2.2.2 (by omega)
      obtain ⟨e1, e2⟩ := bcell_at L p hpl
      have a1 := hcc _ _ e1
      have a2 := hcc _ _ e2
      have hqk := tiles_le _ _ _ hnext
      have Hnext := Lib.hid hnext
      clear hnext htl2 htl hcc e1 e2
      generalize L[p].1 = x at *
      generalize L[p].2 = y at *
      have hp0 : (0 : Int) ≤ (p : Int) := by omega
      have hpn : (p : Int) < (n : Int) := by omega
      have hn20i : (n : Int) ≤ 20 := by omega
      rw [← Nat.add_assoc] at a2
      have hy2 : (y + 1) * 2 ^ x = q + 2 ^ x := by rw [Nat.add_mul, hq, Nat.one_mul]
      obtain ⟨ls, g1, g2⟩ := tier_block He.out x y (by rw [hy2]; exact Nat.le_trans hqk Hk.out)
      rw [hy2, hq] at g2
      obtain ⟨q', hq'⟩ : ∃ q', q + 2 ^ x = q' := ⟨_, rfl⟩
      have hqq : q ≤ q' := by rw [← hq']; exact Nat.le_add_right _ _
      rw [hq'] at g2 hqk Hnext
      have hgl : b < wr.heap.size := by have := hbv.out.size; omega
      have hpb := Blk.new wr 150 #[.int .i64 x, .int .i64 y]
      have hbn := (Below.refl wr.heap.size wr).alloc (Nat.le_refl _) (.cells #[.int .i64 x, .int .i64 y] 150)
      have hti := (H.out.step hbw.out).step hbn
      obtain ⟨g, gr, cr, A2, n2, c2, rfl, hxm, hgw, k1, hgr, k2, hyl, hrd2⟩ := hti.look x y ls _ g1 g2
      obtain ⟨r, hr⟩ : ∃ r, ls.length = r := ⟨_, rfl⟩
      rw [hr] at k1 hyl
      have p0 := hpb.cell 0
      have p1 := hpb.cell 1
      have pl := hpb.lt
      have hck := bk_chk He.out q q' hqq (Nat.le_trans hqk Hk.out)
      have hplw := parts_law He.out i q q' hiq.out hqq (Nat.le_trans hqk Hk.out)
      have Hck := Lib.hid hck
      have Hpl := Lib.hid hplw
      have Hrd2 := Lib.hid hrd2
      have Hbw := Lib.hid (hbw.out.trans (hbn.mono hbw.out.size))
      have Hbv := Lib.hid (hbv.out.trans (hbn.mono hbv.out.size))
      have Hrp : Hid (0 < p → RdP (wr.alloc (.cells #[.int .i64 x, .int .i64 y] 150)) (wr.alloc (.cells #[.int .i64 x, .int .i64 y] 150)).heap.size A1 n1 c1 (bk base l i q)) := Lib.hid fun h => (hrp.out h).step hbn
      have x0 : (0 : Int) ≤ (x : Int) := by omega
      have x1 : (x : Int) < (m : Int) := by omega
      have y0 : (0 : Int) ≤ (y : Int) := by omega
      have y1 : (y : Int) < (r : Int) := by omega
      have x2 : ((x : Int)).toNat = x := by omega
      have y2 : ((y : Int)).toNat = y := by omega
      have Hqk := Lib.hid hqk
      have Hqq := Lib.hid hqq
      clear hpb hbn hti hrd2 hck hplw hbw hbv hrp hr g1 g2 hq hy2 hq' hx6 hy64 hqk hqq hxm hyl
      have x3 : decide (m ≤ x) = false := by simp; omega
      have y3 : decide (r ≤ y) = false := by simp; omega
      go_wp2_with fail
      go_quiet (fail)
      go_wp2_with fail
      go_quiet (fail)
      go_wp2_with fail
      generalize (wr.alloc (.cells #[.int .i64 x, .int .i64 y] 150)) = W2 at *
      clear p0 p1 pl k1 k2 a1 a2
      have Hc2 : ∀ nn, Calls Try.prog 92 #[.slice A2 n2 c2] (W2.drewN nn) fun e w' => e = .returned (.int .i64 0) ∧ Below W2.heap.size W2 w' := fun nn => by
        refine (chk_any _ A2 n2 c2 W2.heap.size (W2.drewN nn) Hrd2.out (Nat.le_refl _)).mono ?_
        rintro e w5 ⟨rfl, hb5⟩
        rw [Hck.out]
        exact ⟨rfl, (Below.drewNt (Below.refl _ _) nn).trans hb5⟩
      refine (Hc2 _).mono ?_
      rintro e w5 ⟨rfl, hb5⟩
      have Hrd5 := Lib.hid (Hrd2.out.step hb5)
      have Hrp5 : Hid (0 < p → RdP w5 w5.heap.size A1 n1 c1 (bk base l i q)) := Lib.hid fun h => (Hrp.out h).step hb5
      have Hbw5 := Lib.hid (Hbw.out.trans (hb5.mono Hbw.out.size))
      have Hbv5 := Lib.hid (Hbv.out.trans (hb5.mono Hbv.out.size))
      clear Hc2 Hrd2 Hrp Hbw Hbv hb5
      have hsm := small_of (.inl Hck.out)
      have hcl : ([] : List Pt).length + n2 ≤ 4000000 := by have h1 := hsm.1; have h2 := Hrd5.out.1; simp only [List.length_nil]; omega
      obtain ⟨N, hN⟩ : ∃ N, N = (bk base l q q').length := ⟨_, rfl⟩
      have Hsm := Lib.hid hsm.2
      have HN := Lib.hid hN
      clear hsm hN
      rcases Nat.eq_zero_or_pos p with h0 | h0
      · have hz : ((p : Int) == 0) = true := by simp; omega
        have hqi := hpq.out h0
        have hiq' : i ≤ q' := by have := Hqq.out; omega
        have Hiq' := Lib.hid hiq'
        have Hqi := Lib.hid hqi
        clear hqi hiq' h0 Hpl Hrp5 hpq hiq
        go_wp2_with (first | (at_builtin; go_loud (refine wpList_app_partsC _ rfl (.const (.slice none 0 0)) (.tmp 70) rfl w5.heap.size _ [] rfl (OwnP.nil _ _) A2 n2 c2 w5.heap.size (bk base l q q') rfl Hrd5.out hcl (Nat.le_refl _) ?_; intro v4 w4 q1 q2; have q1 : OwnP w4 w5.heap.size v4 (bk base l q q') := q1; obtain ⟨A4, c4, rfl⟩ := q1.form_ (n := N) HN.out.symm; have q3 := Lib.hid (Hbw5.out.trans (q2.mono Hbw5.out.size)); have q4 := Lib.hid (Hbv5.out.trans (q2.mono Hbv5.out.size)); have q5 := q1.rd Hsm.out; obtain ⟨A5, c5, q6, q7⟩ := q5; rw [← HN.out] at q6 q7; injection q6 with q8 q9 q10; subst q8; subst q10; have Hq7 := Lib.hid q7; clear q1 q2 q7)))
        go_wp2_with fail
        go_roundw
        case rel => exact ⟨p + 1, q', _, _, _, by omega, by go_num, rfl, Hnext, Hiq', Lib.hid (fun h => absurd h (by omega)), Lib.hid (fun _ => by rw [← Hqi.out]; exact Hq7.out), q3, q4⟩
        case measure => simp [intOf]; omega
      · have hz : ((p : Int) == 0) = false := by simp; omega
        have hco := comp_rdn _ _ A1 A2 n1 n2 c1 c2 w5 (Hrp5.out h0) Hrd5.out 0 (bk base l i q') Hpl.out.1 Hpl.out.2
        have hiq' : i ≤ q' := by have := Hqq.out; have := hiq.out; omega
        have Hiq' := Lib.hid hiq'
        have Hco := Lib.hid hco
        clear hco hiq' h0 Hpl Hrp5 hpq hiq Hrd5
        go_wp2_with fail
        refine Hco.out.mono ?_
        rintro e w6 ⟨A6, n6, c6, rfl, hr6, hb6⟩
        have Hr6 := Lib.hid hr6
        have q3 := Lib.hid (Hbw5.out.trans (hb6.mono Hbw5.out.size))
        have q4 := Lib.hid (Hbv5.out.trans (hb6.mono Hbv5.out.size))
        clear hr6 hb6 Hco
        go_wp2_with fail
        go_roundw
        case rel => exact ⟨p + 1, q', _, _, _, by omega, by go_num, rfl, Hnext, Hiq', Lib.hid (fun h => absurd h (by omega)), Lib.hid (fun _ => Hr6.out), q3, q4⟩
        case measure => simp [intOf]; omega
    · obtain rfl : p = n := by omega
      have hd : L.drop p = [] := List.drop_eq_nil_of_le (by have := Hnl.out; omega)
      have htl2 := htl.out
      rw [hd] at htl2
      have hqk : q = k := by simpa [tiles] using htl2
      have Hr := Lib.hid (hrp.out (by omega))
      rw [hqk] at Hr
      clear htl2 hd hqk htl hrp hpq hiq
      go_wp2_with fail
      go_ret2
      exact ⟨_, _, _, rfl, Hr.out, hbw.out⟩
end Go.Proofs.Ytcdielgpmnhmjaa
namespace Go.Proofs.Ytcdielgpmnhmjaa
open Go.ChangeShapes Go.WideShapes Go.RowKit
set_option linter.unusedVariables false
set_option linter.unusedSimpArgs false
set_option maxRecDepth 100000
set_option maxHeartbeats 4000000

theorem OwnTier.form {w : World} {B : Nat} {v : Value} {rs : List Value} {uss : List (List Value)} {lss : List (List (List Pt))} (h : OwnTier w B v rs uss lss) : ∃ A c, v = .slice A lss.length c := by
  have h1 := h.len1
  rcases h.own.2 with ⟨rfl, h0⟩ | ⟨g, cap, cur, rfl, _⟩
  · exact ⟨none, 0, by rw [← h1, h0]⟩
  · exact ⟨_, _, by rw [← h1]⟩
theorem OwnTier.stepA {w : World} {B : Nat} {v : Value} {rs : List Value} {uss : List (List Value)} {lss : List (List (List Pt))} (h : OwnTier w B v rs uss lss) (o : Obj) : OwnTier (w.alloc o) B v rs uss lss :=
  h.step ((Below.refl w.heap.size w).alloc (Nat.le_refl _) o)
/-- tier.Build of a good history, its slice with its length -/
theorem build_rd (base : ByteArray) (l : List Rv) (A : Option Addr) (n c : Nat) (w : World) (h : RdR w w.heap.size A n c l) (he : txE base l = 0) (m : Nat) (hm : (tiersL l).length = m) :
    Calls Try.prog 45 #[.string base, .slice A n c] w fun e w' => ∃ A1 c1 rs uss, e = .returned (.tuple #[.slice A1 m c1, .int .i64 0]) ∧ OwnTier w' w.heap.size (.slice A1 m c1) rs uss (tiersL l) ∧ Inc uss.flatten ∧ Below w.heap.size w w' := by
  refine (build_good base l A n c _ w h (Nat.le_refl _) he).mono ?_
  rintro e w' ⟨v, rs, uss, rfl, h1, h2, h3⟩
  obtain ⟨A1, c1, rfl⟩ := h1.form
  rw [hm] at h1 ⊢
  exact ⟨_, _, _, _, rfl, h1, h2, h3⟩
end Go.Proofs.Ytcdielgpmnhmjaa
namespace Go.Proofs.Ytcdielgpmnhmjaa
open Go.ChangeShapes Go.WideShapes Go.RowKit
set_option linter.unusedVariables false
set_option linter.unusedSimpArgs false
set_option maxRecDepth 100000
set_option maxHeartbeats 4000000

def pinBad (p : List Int) : Prop := ∃ r ∈ p, r < 0 ∨ 2147483647 < r
instance (p : List Int) : Decidable (pinBad p) := by unfold pinBad; infer_instance
/-- what Check says of a policy -/
def kchk (last every : Int) (p : List Int) : Int :=
  if last < 1 ∨ 2147483647 < last ∨ every < 0 ∨ 2147483647 < every then 1 else if 16 < p.length then 2 else if pinBad p then 1 else 0
def pol (last every : Int) (A : Option Addr) (n c : Nat) : Value := .agg #[.int .i64 last, .int .i64 every, .slice A n c]

theorem kcheck_arg (last every : Int) (p : List Int) (A : Option Addr) (n c B : Nat) (w : World) (h : RdI w B A n c p) (hB : B ≤ w.heap.size) (hbad : last < 1 ∨ 2147483647 < last ∨ every < 0 ∨ 2147483647 < every) :
    Calls Try.prog 90 #[pol last every A n c] w fun e w' => e = .returned (.int .i64 (kchk last every p)) ∧ Below w.heap.size w w' := by
  have hk : Hid (kchk last every p = 1) := Lib.hid (by unfold kchk; rw [if_pos hbad])
  rw [hk.out]
  clear hk h
  unfold pol
  by_cases h1 : last < 1
  · go_enter Try.func90, Try.ntmps90
    go_wp2_with fail
    go_ret
    exact ⟨rfl, (Below.refl _ _).alloc (Nat.le_refl _) _⟩
  by_cases h2 : 2147483647 < last
  · clear hbad
    go_enter Try.func90, Try.ntmps90
    go_wp2_with fail
    go_ret
    exact ⟨rfl, (Below.refl _ _).alloc (Nat.le_refl _) _⟩
  by_cases h3 : every < 0
  · clear hbad
    go_enter Try.func90, Try.ntmps90
    go_wp2_with fail
    go_ret
    exact ⟨rfl, (Below.refl _ _).alloc (Nat.le_refl _) _⟩
  · have h4 : 2147483647 < every := by omega
    clear hbad
    go_enter Try.func90, Try.ntmps90
    go_wp2_with fail
    go_ret
    exact ⟨rfl, (Below.refl _ _).alloc (Nat.le_refl _) _⟩
theorem kcheck_good (last every : Int) (p : List Int) (A : Option Addr) (n c B : Nat) (w : World) (h : RdI w B A n c p) (hB : B ≤ w.heap.size) (h1 : 1 ≤ last) (h2 : last ≤ 2147483647) (h3 : 0 ≤ every) (h4 : every ≤ 2147483647) :
    Calls Try.prog 90 #[pol last every A n c] w fun e w' => e = .returned (.int .i64 (kchk last every p)) ∧ Below w.heap.size w w' := by
  have hle := h.le
  by_cases hl : 16 < n
  · have hk : Hid (kchk last every p = 2) := Lib.hid (by unfold kchk; rw [if_neg (by omega), if_pos (by have := h.1; omega)])
    rw [hk.out]
    clear hk h
    have hl' : (16 : Int) < (n : Int) := by omega
    unfold pol
    go_enter Try.func90, Try.ntmps90
    go_wp2_with fail
    go_ret
    exact ⟨rfl, (Below.refl _ _).alloc (Nat.le_refl _) _⟩
  · have hl' : (n : Int) ≤ 16 := by omega
    have hk : Hid (kchk last every p = if pinBad p then 1 else 0) := Lib.hid (by unfold kchk; rw [if_neg (by omega), if_neg (by have := h.1; omega)])
    have H := Lib.hid (h.alloc hB (.cells #[.int .i64 last, .int .i64 every, .slice A n c] 78))
    clear h hl
    unfold pol
    go_enter Try.func90, Try.ntmps90
    go_wp2_with fail
    go_loop [4, 30] (fun r i => ∃ k : Nat, k ≤ n ∧ i = .int .i64 k ∧ Hid (¬ pinBad (p.take k))) (fun _ i => n - (intOf i).toNat)
    case atStart => exact ⟨0, by omega, rfl, Lib.hid (by simp [pinBad])⟩
    case round =>
      obtain ⟨k, hkn, rfl, hm⟩ := hrel
      by_cases hlt : k < n
      · obtain ⟨b, o, rfl, hb, hc⟩ := H.out.at_ k hlt
        have hkl : k < p.length := by have := H.out.1; omega
        have hts : Hid (p.take (k + 1) = p.take k ++ [p[k]]) := Lib.hid (by rw [List.take_succ_eq_append_getElem hkl])
        have hin : Hid (p[k] ∈ p) := Lib.hid (List.getElem_mem hkl)
        generalize p[k] = y at *
        have hk0 : (0 : Int) ≤ (k : Int) := by omega
        have hkn : (k : Int) < (n : Int) := by omega
        by_cases hy : y < 0 ∨ 2147483647 < y
        · have hpb : Hid (pinBad p) := Lib.hid ⟨y, hin.out, hy⟩
          by_cases hy0 : y < 0
          · clear hy
            go_wp2_with fail
            go_ret
            exact ⟨by rw [hk.out, if_pos hpb.out]; rfl, (Below.refl _ _).alloc (Nat.le_refl _) _⟩
          · have hy1 : 2147483647 < y := by omega
            clear hy
            go_wp2_with fail
            go_ret
            exact ⟨by rw [hk.out, if_pos hpb.out]; rfl, (Below.refl _ _).alloc (Nat.le_refl _) _⟩
        · have hy0 : 0 ≤ y := by omega
          have hy1 : y ≤ 2147483647 := by omega
          clear hy
          go_wp2_with fail
          go_round
          case rel =>
            refine ⟨k + 1, by omega, by go_num, Lib.hid ?_⟩
            rw [hts.out]
            rintro ⟨r, hr, hbad⟩
            rcases List.mem_append.1 hr with hr | hr
            · exact hm.out ⟨r, hr, hbad⟩
            · rw [List.mem_singleton] at hr; omega
          case measure => simp [intOf]; omega
      · have hnot : Hid (¬ pinBad p) := Lib.hid (by have h1 := hm.out; rw [List.take_of_length_le (by have := H.out.1; omega)] at h1; exact h1)
        clear hm
        go_wp2_with fail
        go_ret
        exact ⟨by rw [hk.out, if_neg hnot.out]; rfl, (Below.refl _ _).alloc (Nat.le_refl _) _⟩
theorem kcheck_any (last every : Int) (p : List Int) (A : Option Addr) (n c B : Nat) (w : World) (h : RdI w B A n c p) (hB : B ≤ w.heap.size) :
    Calls Try.prog 90 #[pol last every A n c] w fun e w' => e = .returned (.int .i64 (kchk last every p)) ∧ Below w.heap.size w w' := by
  by_cases hbad : last < 1 ∨ 2147483647 < last ∨ every < 0 ∨ 2147483647 < every
  · exact kcheck_arg last every p A n c B w h hB hbad
  · exact kcheck_good last every p A n c B w h hB (by omega) (by omega) (by omega) (by omega)
theorem kchk_zero (last every : Int) (p : List Int) (h : kchk last every p = 0) : 1 ≤ last ∧ last ≤ 2147483647 ∧ 0 ≤ every ∧ every ≤ 2147483647 ∧ p.length ≤ 16 ∧ ∀ r ∈ p, 0 ≤ r ∧ r ≤ 2147483647 := by
  unfold kchk at h
  split at h
  · omega
  · split at h
    · omega
    · split at h
      · omega
      · rename_i h1 h2 h3
        refine ⟨by omega, by omega, by omega, by omega, by omega, fun r hr => ?_⟩
        have : ¬ (r < 0 ∨ 2147483647 < r) := fun hb => h3 ⟨r, hr, hb⟩
        omega
theorem kchk_cases (last every : Int) (p : List Int) : kchk last every p = 0 ∨ kchk last every p = 1 ∨ kchk last every p = 2 := by
  unfold kchk
  (repeat' split) <;> simp

/-- is a revision kept? -/
def kB (last every : Int) (p : List Int) (head r : Int) : Bool := decide (head - last < r) || (decide (0 < every) && decide (r % every = 0)) || decide (r ∈ p)
theorem kept_any (last every : Int) (p : List Int) (head r : Nat) (A : Option Addr) (n c B : Nat) (w : World) (h : RdI w B A n c p) (hB : B ≤ w.heap.size) (h1 : 1 ≤ last) (h2 : last ≤ 2147483647) (h3 : 0 ≤ every) (h4 : every ≤ 2147483647)
    (h5 : (head : Int) ≤ 641) (h6 : (r : Int) ≤ 641) (b : Bool) (hb : kB last every p head r = b) :
    Calls Try.prog 91 #[pol last every A n c, .int .i64 head, .int .i64 r] w fun e w' => e = .returned (.bool b) ∧ Below w.heap.size w w' := by
  have H := Lib.hid (h.alloc hB (.cells #[.int .i64 last, .int .i64 every, .slice A n c] 78))
  have HB := Lib.hid hb
  clear h hb
  have hr0 : (0 : Int) ≤ (r : Int) := by omega
  unfold pol
  by_cases g1 : (head : Int) - last < r
  · have e : Hid (b = true) := Lib.hid (by rw [← HB.out]; unfold kB; simp [g1])
    rw [e.out]
    clear e HB
    go_enter Try.func91, Try.ntmps91
    go_wp2_with fail
    go_ret
    exact ⟨rfl, (Below.refl _ _).alloc (Nat.le_refl _) _⟩
  by_cases g2 : 0 < every
  · by_cases g3 : (r : Int) % every = 0
    · have e : Hid (b = true) := Lib.hid (by rw [← HB.out]; unfold kB; simp [g2, g3])
      rw [e.out]
      have g3' : ((r : Int) % every == 0) = true := by simpa using g3
      clear e HB g3
      go_enter Try.func91, Try.ntmps91
      go_wp2_with fail
      go_ret
      exact ⟨rfl, (Below.refl _ _).alloc (Nat.le_refl _) _⟩
    · have e : Hid (decide ((r : Int) ∈ p) = b) := Lib.hid (by rw [← HB.out]; unfold kB; simp [g1, g3])
      have g3' : ((r : Int) % every == 0) = false := by simpa using g3
      clear HB g3
      go_enter Try.func91, Try.ntmps91
      go_wp2_with fail
      refine (contains_any p r A n c B _ H.out b e.out).mono ?_
      rintro e w' ⟨rfl, rfl⟩
      go_wp2_with fail
      go_ret
      exact ⟨rfl, (Below.refl _ _).alloc (Nat.le_refl _) _⟩
  · have e : Hid (decide ((r : Int) ∈ p) = b) := Lib.hid (by rw [← HB.out]; unfold kB; simp [g1, g2])
    clear HB
    go_enter Try.func91, Try.ntmps91
    go_wp2_with fail
    refine (contains_any p r A n c B _ H.out b e.out).mono ?_
    rintro e w' ⟨rfl, rfl⟩
    go_wp2_with fail
    go_ret
    exact ⟨rfl, (Below.refl _ _).alloc (Nat.le_refl _) _⟩

/-- the revisions that are kept, below k -/
def kL (last every : Int) (p : List Int) (head : Int) (k : Nat) : List Int := ((List.range k).filter (fun r : Nat => kB last every p head (r : Int))).map (fun r : Nat => (r : Int))
theorem kL_zero (last every : Int) (p : List Int) (head : Int) : kL last every p head 0 = [] := rfl
theorem kL_len (last every : Int) (p : List Int) (head : Int) (k : Nat) : (kL last every p head k).length ≤ k := by
  unfold kL
  rw [List.length_map]
  exact Nat.le_trans (List.length_filter_le _ _) (by simp)
theorem kL_succ (last every : Int) (p : List Int) (head : Int) (k : Nat) : kL last every p head (k + 1) = kL last every p head k ++ if kB last every p head (k : Int) then [(k : Int)] else [] := by
  unfold kL
  rw [List.range_succ, List.filter_append, List.map_append]
  by_cases h : kB last every p head (k : Int) <;> simp [List.filter_cons, h]
theorem keep_err (last every : Int) (p : List Int) (head : Int) (A : Option Addr) (n c B : Nat) (w : World) (h : RdI w B A n c p) (hB : B ≤ w.heap.size) (hk : kchk last every p ≠ 0) :
    Calls Try.prog 46 #[pol last every A n c, .int .i64 head] w fun e w' => e = .returned (.tuple #[.slice none 0 0, .int .i64 (kchk last every p)]) ∧ Below w.heap.size w w' := by
  have H := Lib.hid (h.alloc hB (.cells #[.int .i64 last, .int .i64 every, .slice A n c] 78))
  have hne : ((kchk last every p) != 0) = true := by simpa using hk
  clear h hk
  unfold pol
  go_enter Try.func46, Try.ntmps46
  go_wp2_with fail
  refine (kcheck_any last every p A n c B _ H.out (by simp; omega)).mono ?_
  rintro e w1 ⟨rfl, hb1⟩
  have hb := ((Below.refl w.heap.size w).alloc (Nat.le_refl _) (.cells #[.int .i64 last, .int .i64 every, .slice A n c] 78)).trans (hb1.mono (by simp))
  clear hb1
  go_wp2_with fail
  go_ret2
  exact ⟨rfl, hb⟩
theorem keep_arg (last every : Int) (p : List Int) (head : Int) (A : Option Addr) (n c B : Nat) (w : World) (h : RdI w B A n c p) (hB : B ≤ w.heap.size) (hk : kchk last every p = 0) (hh : head < 0 ∨ 640 < head) :
    Calls Try.prog 46 #[pol last every A n c, .int .i64 head] w fun e w' => e = .returned (.tuple #[.slice none 0 0, .int .i64 1]) ∧ Below w.heap.size w w' := by
  have H := Lib.hid (h.alloc hB (.cells #[.int .i64 last, .int .i64 every, .slice A n c] 78))
  have Hk := Lib.hid hk
  clear h hk
  unfold pol
  go_enter Try.func46, Try.ntmps46
  go_wp2_with fail
  refine (kcheck_any last every p A n c B _ H.out (by simp; omega)).mono ?_
  rintro e w1 ⟨rfl, hb1⟩
  rw [Hk.out]
  have hb := ((Below.refl w.heap.size w).alloc (Nat.le_refl _) (.cells #[.int .i64 last, .int .i64 every, .slice A n c] 78)).trans (hb1.mono (by simp))
  clear hb1
  by_cases h0 : head < 0
  · clear hh
    go_wp2_with fail
    go_ret2
    exact ⟨rfl, hb⟩
  · have h1 : 640 < head := by omega
    clear hh
    go_wp2_with fail
    go_ret2
    exact ⟨rfl, hb⟩
theorem keep_good (last every : Int) (p : List Int) (head : Nat) (A : Option Addr) (n c B : Nat) (w : World) (h : RdI w B A n c p) (hB : B ≤ w.heap.size) (hk : kchk last every p = 0) (hh : (head : Int) ≤ 640) :
    Calls Try.prog 46 #[pol last every A n c, .int .i64 head] w fun e w' => (∃ v, e = .returned (.tuple #[v, .int .i64 0]) ∧ OwnI w' w.heap.size v (kL last every p head (head + 1))) ∧ Below w.heap.size w w' := by
  have H := Lib.hid (h.alloc hB (.cells #[.int .i64 last, .int .i64 every, .slice A n c] 78))
  obtain ⟨q1, q2, q3, q4, _, _⟩ := kchk_zero _ _ _ hk
  have Hk := Lib.hid hk
  clear h hk
  unfold pol
  go_enter Try.func46, Try.ntmps46
  go_wp2_with fail
  refine (kcheck_any last every p A n c B _ H.out (by simp; omega)).mono ?_
  rintro e w1 ⟨rfl, hb1⟩
  rw [Hk.out]
  have H1 := Lib.hid (H.out.below (hb1.mono (by simp; omega)))
  have hblk := (Blk.new w 78 #[.int .i64 last, .int .i64 every, .slice A n c]).below hb1 (by simp)
  have hb := ((Below.refl w.heap.size w).alloc (Nat.le_refl _) (.cells #[.int .i64 last, .int .i64 every, .slice A n c] 78)).trans (hb1.mono (by simp))
  have hsz : w.heap.size + 1 ≤ w1.heap.size := by have := hb1.size; simpa using this
  clear hb1
  have Hblk := Lib.hid hblk
  clear hblk H
  go_wp2_with fail
  go_loopw [7, 8, 22] (fun v r i wr => ∃ k : Nat, k ≤ head + 1 ∧ i = .int .i64 k ∧ OwnI wr (w.heap.size + 1) v (kL last every p head k) ∧ Hid (RdI wr B A n c p) ∧ Hid (Blk wr w.heap.size 78 #[.int .i64 last, .int .i64 every, .slice A n c]) ∧
      Below w.heap.size w wr ∧ w.heap.size + 1 ≤ wr.heap.size) (fun _ _ i _ => head + 1 - (intOf i).toNat)
  case atStart => exact ⟨0, by omega, rfl, by rw [kL_zero]; exact OwnI.nil _ _, H1, Hblk, hb, hsz⟩
  case round =>
    obtain ⟨k, hkh, rfl, hown, hrd, hbl, hbw, hszr⟩ := hrel
    have Hown := Lib.hid hown
    have hll := kL_len last every p head k
    have HS := Lib.hid (kL_succ last every p head k)
    by_cases hlt : k < head + 1
    · have c0 := hbl.out.cell 0
      have c1 := hbl.out.cell 1
      have c2 := hbl.out.cell 2
      have hk0 : (0 : Int) ≤ (k : Int) := by omega
      have hk1 : (k : Int) < (head : Int) + 1 := by omega
      clear hown
      go_wp2_with fail
      have hcall : ∀ b, kB last every p head k = b → Calls Try.prog 91 #[pol last every A n c, .int .i64 head, .int .i64 k] wr fun e w' => e = .returned (.bool b) ∧ Below wr.heap.size wr w' :=
        fun b hb => kept_any last every p head k A n c B wr hrd.out (by omega) q1 q2 q3 q4 (by omega) (by omega) b hb
      obtain ⟨b, hb⟩ : ∃ b, kB last every p head k = b := ⟨_, rfl⟩
      have hc := hcall b hb
      have HB := Lib.hid hb
      clear hcall hb
      unfold pol at hc
      refine hc.mono ?_
      clear hc
      rintro e w2 ⟨rfl, hb2⟩
      have hown2 := Lib.hid (OwnI.below Hown.out hb2)
      have hrd2 : Hid (RdI w2 B A n c p) := Lib.hid (hrd.out.below (hb2.mono (by omega)))
      have hbl2 := Lib.hid (hbl.out.below hb2 hbl.out.lt)
      have hbw2 := hbw.trans (hb2.mono hbw.size)
      have hsz2 : w.heap.size + 1 ≤ w2.heap.size := by have := hb2.size; omega
      clear hb2 c0 c1 c2
      cases b
      · go_wp2_with fail
        go_roundw
        case rel => exact ⟨k + 1, by omega, by go_num, by rw [HS.out, HB.out]; simpa using hown2.out, hrd2, hbl2, hbw2, hsz2⟩
        case measure => simp [intOf]; omega
      · have hlb : (kL last every p head k).length ≤ 100000000 := by omega
        go_wp2_with (first | (at_builtin; refine wpList_app_int _ rfl (.tmp 29) (.tmp 31) rfl (w.heap.size + 1) _ (kL last every p head k) rfl hown2.out (k : Int) 1 rfl hlb hsz2 ?_; intro v' w3 h1 h2 h3 h4))
        have hge := own_ge hown2.out
        have hr3 : ∀ g, v'.ownBlock = some g → w.heap.size + 1 ≤ g := own_ge h1
        have e1 := h2.mono (show w.heap.size ≤ w.heap.size + 1 by omega)
        have hrd3 : Hid (RdI w3 B A n c p) := Lib.hid (hrd2.out.below (h2.mono (by omega)))
        have hbl3 := Lib.hid (hbl2.out.below h2 (by omega))
        have hbw3 := hbw2.trans e1
        have hsz3 : w.heap.size + 1 ≤ w3.heap.size := by have := h2.size; omega
        have h1' := Lib.hid h1
        clear h1 h2 h3 h4 hge hr3 e1
        go_wp2_with fail
        go_roundw
        case rel => exact ⟨k + 1, by omega, by go_num, by rw [HS.out, HB.out]; exact h1'.out, hrd3, hbl3, hbw3, hsz3⟩
        case measure => simp [intOf]; omega
    · obtain rfl : k = head + 1 := by omega
      clear hown HS hll
      go_wp2_with fail
      go_ret2
      exact ⟨⟨_, rfl, own_base Hown.out (by omega)⟩, hbw⟩
end Go.Proofs.Ytcdielgpmnhmjaa
namespace Go.Proofs.Ytcdielgpmnhmjaa
open Go.ChangeShapes Go.WideShapes Go.RowKit Go.Joins
set_option linter.unusedVariables false
set_option linter.unusedSimpArgs false
set_option maxRecDepth 100000

/-- a policy as it came in -/
def IsPolicy (w : World) (v : Value) (x : Int × Int × List Int) : Prop := ∃ A n c, v = pol x.1 x.2.1 A n c ∧ RdI w w.heap.size A n c x.2.2
section
variable {H : Type} {enc : TypeId × Value → H} {w : World} {base : Nat} {spare : Nat → Bool} {held : Bool}
theorem read_ints {fuel : Nat} {v : Value} {x : DataW H × List MemPlace} (h : DataW.trod enc Try.prog w base spare held fuel 71 [v] = some x) : ∃ A n c l, v = .slice A n c ∧ RdI w w.heap.size A n c l := by
  rcases open_ints Try.underlying71 Try.underlying3 (by kernel_rfl) h with ⟨hc, _⟩ | ⟨a, len, cap, zs, hc, _, h1, h2, h3, _, h4, _⟩
  · simp only [List.cons.injEq, and_true] at hc
    exact ⟨_, _, _, [], hc, rfl, Rd.nil _ _ _⟩
  · simp only [List.cons.injEq, and_true] at hc
    have hl : len ≤ zs.length := by rw [h3]; split <;> omega
    have hl2 : (zs.take len).length = len := by rw [List.length_take]; omega
    refine ⟨_, _, _, zs.take len, hc, hl2.symm, rd_of (by omega) h1 h2 (by rw [ic_len, hl2, Nat.mul_one]) fun j u hj => ?_⟩
    have hjl : j < len := by
      rcases Nat.lt_or_ge j (ic (zs.take len)).length with hlt | hge
      · rw [ic_len, hl2] at hlt; exact hlt
      · rw [List.getElem?_eq_none hge] at hj; cases hj
    rw [ic_at _ j (by omega)] at hj
    injection hj with hj
    rw [h4 j (by omega), ← hj]
    simp [List.getD_eq_getElem?_getD, List.getElem?_eq_getElem (show j < zs.length by omega)]
theorem open_policy_said {r : Reach} {b0 : Nat} {v : Value} {d : DataW H} {p : List MemPlace} (hv : Value.okWide Try.prog w r b0 78 v) (h : DataW.Trod enc Try.prog w base spare held 78 v d p) (_ : ∀ x ∈ p, x.block < w.heap.size)
    (hb : ∀ x ∈ DataW.weights Try.prog 78 d, x ≤ 140737488351232) : ∃ x, IsPolicy w v x := by
  obtain ⟨v0, v1, v2, y0, y1, y2, n, rfl, rfl, rfl, h0, h1, h2⟩ := open_agg3 Try.underlying78 (by kernel_rfl) (by kernel_rfl) hv h
  obtain ⟨a, e0, rfl, _⟩ := DataW.trod_int Try.underlying3 h0
  obtain ⟨b, e1, rfl, _⟩ := DataW.trod_int Try.underlying3 h1
  obtain ⟨A, m, c, l, e2, hr⟩ := read_ints h2
  simp only [List.cons.injEq, and_true] at e0 e1
  subst e0 e1 e2
  exact ⟨(a, b, l), A, m, c, rfl, hr⟩
end
end Go.Proofs.Ytcdielgpmnhmjaa
