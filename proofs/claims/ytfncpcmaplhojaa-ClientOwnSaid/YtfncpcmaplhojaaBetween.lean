/- Contracts of part.Idle and revs.Between. -/
import Derived.Test.YtfncpcmaplhojaaRevs
import Derived.Test.YtfncpcmaplhojaaComp
import Derived.Test.YtfncpcmaplhojaaUndoLaw
namespace Go.Proofs.Ytfncpcmaplhojaa
open Go.ChangeShapes Go.WideShapes Go.RowKit
set_option linter.unusedVariables false
set_option linter.unusedSimpArgs false
set_option maxRecDepth 100000
set_option maxHeartbeats 4000000

theorem comp_rdn (a b : List Pt) (A A' : Option Addr) (n n' c c' : Nat) (w : World) (h : RdP w w.heap.size A n c a) (h' : RdP w w.heap.size A' n' c' b) (z : Int) (x : List Pt) (hz : compE a b = z) (hx : compL a b = x) :
    Calls Try.prog 56 #[.slice A n c, .slice A' n' c'] w fun e w' => ∃ A1 n1 c1, e = .returned (.tuple #[.slice A1 n1 c1, .int .i64 z]) ∧ RdP w' w'.heap.size A1 n1 c1 x ∧ Below w.heap.size w w' := by
  subst hz; subst hx
  refine (comp_rd a b A A' n n' c c' w h h').mono ?_
  rintro e w' ⟨A1, c1, rfl, h1, hb⟩
  exact ⟨_, _, _, rfl, h1, hb⟩
theorem allL_small (n : Int) : ∀ p ∈ allL n, p.2.2.size ≤ 140737488351232 := by
  unfold allL
  split
  · simp
  · simp [emp]; decide
theorem idle_any (n : Nat) (hn : n ≤ 500) (w : World) :
    Calls Try.prog 65 #[.int .i64 n] w fun e w' => ∃ A m c, e = .returned (.slice A m c) ∧ RdP w' w'.heap.size A m c (allL n) ∧ Below w.heap.size w w' := by
  have hm0 := Mk.fresh w (.cells #[.slice none 0 0, .string ⟨#[]⟩, .int .i64 0] 165)
  have hb0 := (Below.refl w.heap.size w).alloc (Nat.le_refl _) (.cells #[.slice none 0 0, .string ⟨#[]⟩, .int .i64 0] 165)
  have he : Hid (grp (cz ([] ++ ku (n : Int))) = allL n) := Lib.hid (by
    have := grp_cz_good (all_chk n hn)
    rw [all_units] at this
    rw [List.nil_append, ku_nat]; exact this)
  have hn' : (n : Int) ≤ 500 := by omega
  have hn0 : (0 : Int) ≤ (n : Int) := by omega
  go_enter Try.func65, Try.ntmps65
  go_wp2_with fail
  refine (mkeep_any (n : Int) hm0 (by simp) hb0.size (by omega) (by omega)).mono ?_
  rintro e w1 ⟨rfl, ob, hm1, hf1⟩
  have hge := hm0.ge
  have hw1 := hb0.trans (hf1.below_ hb0.size (Nat.le_refl _) fun k hk => (hge k hk).1)
  have Hm1 := Lib.hid hm1
  clear hm1 hf1 hge hm0
  go_wp2_with fail
  refine (mdone_any Hm1.out (by simp [ku]; omega) hw1.size).mono ?_
  rintro e w2 ⟨v, ob2, rfl, ho, _, hf⟩
  have hge := Hm1.out.ge
  have hw2 := hw1.trans (hf.below_ hw1.size (Nat.le_refl _) fun k hk => (hge k hk).1)
  rw [he.out] at ho
  obtain ⟨A5, c5, rfl, hr⟩ := ho.rd (allL_small n)
  have Hr := Lib.hid hr
  clear ho hf hge hr
  go_wp2_with fail
  go_ret
  exact ⟨_, _, _, rfl, Hr.out, hw2⟩
theorem between_err (base : ByteArray) (l : List Rv) (A : Option Addr) (n c B : Nat) (i k : Int) (w : World) (h : RdR w B A n c l) (hB : B ≤ w.heap.size) (hbs : base.size ≤ 9223372036854775807) (he : txE base l ≠ 0) :
    Calls Try.prog 24 #[.string base, .slice A n c, .int .i64 i, .int .i64 k] w fun e w' => e = .returned (.tuple #[.slice none 0 0, .int .i64 (txE base l)]) ∧ Below w.heap.size w w' := by
  have hc := texts_any base l A n c B w h hB hbs
  have Hc := Lib.hid hc
  have hne : (txE base l != 0) = true := by simpa using he
  clear hc h he
  go_enter Try.func24, Try.ntmps24
  go_wp2_with fail
  refine Hc.out.mono ?_
  rintro e w1 ⟨A1, n1, c1, rfl, _, hb⟩
  go_wp2_with fail
  go_ret2
  exact ⟨rfl, hb⟩
theorem between_arg (base : ByteArray) (l : List Rv) (A : Option Addr) (n c B : Nat) (i k : Int) (w : World) (h : RdR w B A n c l) (hB : B ≤ w.heap.size) (hbs : base.size ≤ 9223372036854775807) (he : txE base l = 0) (hk : i < 0 ∨ (n : Int) < k ∨ k < i) :
    Calls Try.prog 24 #[.string base, .slice A n c, .int .i64 i, .int .i64 k] w fun e w' => e = .returned (.tuple #[.slice none 0 0, .int .i64 1]) ∧ Below w.heap.size w w' := by
  have hc := texts_any base l A n c B w h hB hbs
  rw [he] at hc
  have Hc := Lib.hid hc
  have hle := h.le
  clear hc h he
  rcases (show i < 0 ∨ (0 ≤ i ∧ (n : Int) < k) ∨ (0 ≤ i ∧ k ≤ (n : Int) ∧ k < i) by omega) with h1 | ⟨h1, h2⟩ | ⟨h1, h2, h3⟩
  all_goals
    clear hk
    go_enter Try.func24, Try.ntmps24
    go_wp2_with fail
    refine Hc.out.mono ?_
    rintro e w1 ⟨A1, n1, c1, rfl, _, hb⟩
    go_wp2_with fail
    go_ret2
    exact ⟨rfl, hb⟩
theorem between_same (base : ByteArray) (l : List Rv) (A : Option Addr) (B i : Nat) (w : World) (h : RdR w B A i i l) (hB : B ≤ w.heap.size) (he : txE base l = 0) (R : List Pt)
    (hR : btw (allL (txt base l i).size) ((l.drop i).take (i - i)) = R) :
    Calls Try.prog 24 #[.string base, .slice A i i, .int .i64 i, .int .i64 i] w fun e w' => ∃ A1 n1 c1, e = .returned (.tuple #[.slice A1 n1 c1, .int .i64 0]) ∧ RdP w' w'.heap.size A1 n1 c1 R ∧ Below w.heap.size w w' := by
  have hp := txE_parts he
  have hc := texts_any base l A i i B w h hB (by omega)
  rw [he] at hc
  have Hc := Lib.hid hc
  have hn : i = l.length := h.1
  have hcaps := h.caps
  have hkn' : (i : Int) ≤ (i : Int) := by omega
  have hik' : (i : Int) ≤ (i : Int) := by omega
  have hi0 : (0 : Int) ≤ (i : Int) := by omega
  have hin : (i : Int) < (i : Int) + 1 := by omega
  have hn64 : (i : Int) ≤ 64 := by omega
  have hnc : (i : Int) ≤ (i : Int) := by omega
  have hkc : (i : Int) ≤ (i : Int) := by omega
  have hat := txs_at l base i (by omega)
  have hlen := txs_len l base
  have hS5 := txt_size l base i hp.1
  have hdr := txr_take (l.drop i) (txt base l i) (i - i) (txr_drop l base i hp.2.2)
  obtain ⟨S, hS⟩ : ∃ S, txt base l i = S := ⟨_, rfl⟩
  rw [hS] at hat hS5 hdr hR
  have Hda := Lib.hid (do_all hS5)
  have Hat := Lib.hid hat
  have Hlen := Lib.hid (show (txs base l).length = i + 1 by omega)
  have Hdr := Lib.hid hdr
  have HR := Lib.hid hR
  have Hn := Lib.hid hn
  have hR0 : allL (S.size : Int) = R := by have h1 := HR.out; rw [Nat.sub_self, List.take_zero] at h1; exact h1
  have HR0 := Lib.hid hR0
  clear hc h he hp hat hlen hS hn hdr hR hR0
  go_enter Try.func24, Try.ntmps24
  go_wp2_with fail
  refine Hc.out.mono ?_
  rintro e w1 ⟨A1, n1, c1, rfl, hown, hb⟩
  have ho := hown trivial
  unfold OwnS at ho
  rw [Hlen.out] at ho
  have hnn : n1 = i + 1 ∧ ∃ g, A1 = some ⟨g, 0, none⟩ := by
    rcases ho.2 with ⟨hv, h0⟩ | ⟨g', cap, cur, hv, _⟩
    · omega
    · injection hv with h1 h2 h3; exact ⟨h2, g', h1⟩
  obtain ⟨rfl, g, rfl⟩ := hnn
  have hcl : w1.cell? ⟨g, i, none⟩ = some (.string S) := by
    rw [World.ownsRow.cellAt ho i (by omega), List.getElem?_map, Hat.out]
    rfl
  clear hown ho
  go_wp2_with fail
  refine (idle_any S.size hS5 _).mono ?_
  rintro e w2 ⟨A2, n2, c2, rfl, hr2, hb2⟩
  have hw2 := hb.trans (hb2.mono hb.size)
  have Hr2 := Lib.hid hr2
  clear hr2 hb2 hb hcl
  go_wp2_with fail
  go_loopw [11, 12, 14, 48] (fun ev ov pv iv wr => iv = .int .i64 0 ∧ ov = .slice A2 n2 c2 ∧ wr = w2) (fun _ _ _ i _ => 0)
  case atStart => exact ⟨rfl, rfl, rfl⟩
  case round =>
    obtain ⟨rfl, rfl, rfl⟩ := hrel
    go_wp2_with fail
    go_ret2
    exact ⟨_, _, _, rfl, by rw [← HR0.out]; exact Hr2.out, hw2⟩
theorem between_more (base : ByteArray) (l : List Rv) (A : Option Addr) (n c B i k : Nat) (w : World) (h : RdR w B A n c l) (hB : B ≤ w.heap.size) (he : txE base l = 0) (hik : i ≤ k) (hkn : k ≤ n) (R : List Pt)
    (hR : btw (allL (txt base l i).size) ((l.drop i).take (k - i)) = R) (hci : c ≠ i) :
    Calls Try.prog 24 #[.string base, .slice A n c, .int .i64 i, .int .i64 k] w fun e w' => ∃ A1 n1 c1, e = .returned (.tuple #[.slice A1 n1 c1, .int .i64 0]) ∧ RdP w' w'.heap.size A1 n1 c1 R ∧ Below w.heap.size w w' := by
  have hp := txE_parts he
  have hc := texts_any base l A n c B w h hB (by omega)
  rw [he] at hc
  have Hc := Lib.hid hc
  have hn : n = l.length := h.1
  have hcaps := h.caps
  have hkn' : (k : Int) ≤ (n : Int) := by omega
  have hik' : (i : Int) ≤ (k : Int) := by omega
  have hi0 : (0 : Int) ≤ (i : Int) := by omega
  have hin : (i : Int) < (n : Int) + 1 := by omega
  have hn64 : (n : Int) ≤ 64 := by omega
  have hnc : (n : Int) ≤ (c : Int) := by omega
  have hkc : (k : Int) ≤ (c : Int) := by omega
  have hat := txs_at l base i (by omega)
  have hlen := txs_len l base
  have hS5 := txt_size l base i hp.1
  have hdr := txr_take (l.drop i) (txt base l i) (k - i) (txr_drop l base i hp.2.2)
  obtain ⟨S, hS⟩ : ∃ S, txt base l i = S := ⟨_, rfl⟩
  rw [hS] at hat hS5 hdr hR
  have Hda := Lib.hid (do_all hS5)
  have Hat := Lib.hid hat
  have Hlen := Lib.hid (show (txs base l).length = n + 1 by omega)
  have Hdr := Lib.hid hdr
  have HR := Lib.hid hR
  have Hn := Lib.hid hn
  obtain ⟨A', hA'⟩ : ∃ A', Option.map (fun x : Addr => x.add (i * 3)) A = A' := ⟨_, rfl⟩
  obtain ⟨N, hN⟩ : ∃ N, k - i = N := ⟨_, rfl⟩
  have hdrop : RdR w B A' N (c - i) ((l.drop i).take N) := (h.drop i (by omega) A' (fun _ b o e => by
    rw [← hA', e]
    simp only [Option.map_some, Addr.add]
    by_cases h0 : i * 3 = 0
    · simp [h0]
    · simp [h0])).take N (by omega)
  rw [hN] at HR Hdr
  have hN64 : (N : Int) ≤ 64 := by omega
  have hNk : (k : Int) - (i : Int) = (N : Int) := by omega
  have Hd := Lib.hid hdrop
  have hcif : (c = i) = False := by simp; omega
  clear hc h he hp hat hlen hS hn hdr hR hci hdrop
  go_enter Try.func24, Try.ntmps24
  go_wp2_with fail
  refine Hc.out.mono ?_
  rintro e w1 ⟨A1, n1, c1, rfl, hown, hb⟩
  have ho := hown trivial
  unfold OwnS at ho
  rw [Hlen.out] at ho
  have hnn : n1 = n + 1 ∧ ∃ g, A1 = some ⟨g, 0, none⟩ := by
    rcases ho.2 with ⟨hv, h0⟩ | ⟨g', cap, cur, hv, _⟩
    · omega
    · injection hv with h1 h2 h3; exact ⟨h2, g', h1⟩
  obtain ⟨rfl, g, rfl⟩ := hnn
  have hcl : w1.cell? ⟨g, i, none⟩ = some (.string S) := by
    rw [World.ownsRow.cellAt ho i (by omega), List.getElem?_map, Hat.out]
    rfl
  clear hown ho
  go_wp2_with fail
  refine (idle_any S.size hS5 _).mono ?_
  rintro e w2 ⟨A2, n2, c2, rfl, hr2, hb2⟩
  have hw2 := hb.trans (hb2.mono hb.size)
  have Hr2 := Lib.hid hr2
  clear hr2 hb2 hb hcl
  go_wp2_with fail
  go_loopw [11, 12, 14, 48] (fun ev ov pv iv wr => ∃ (j : Nat) (A1 : Option Addr) (n1 c1 : Nat) (o : List Pt), j ≤ N ∧ iv = .int .i64 j ∧ ov = .slice A1 n1 c1 ∧ Hid (RdP wr wr.heap.size A1 n1 c1 o) ∧ Hid (doE o S = 0 ∧ txr (doS o S) (((l.drop i).take N).drop j) = 0 ∧ btw o (((l.drop i).take N).drop j) = R) ∧ Below w.heap.size w wr) (fun _ _ _ i _ => N - (intOf i).toNat)
  case atStart => exact ⟨0, _, _, _, _, by omega, rfl, rfl, Hr2, Lib.hid ⟨Hda.out.1, by rw [Hda.out.2, List.drop_zero]; exact Hdr.out, by rw [List.drop_zero]; exact HR.out⟩, hw2⟩
  case round =>
    obtain ⟨j, A3, n3, c3, t, hj, rfl, rfl, hrt, hst, hbwr⟩ := hrel
    by_cases hlt : j < N
    · have hkl : j < ((l.drop i).take N).length := by have := Hd.out.1; omega
      obtain ⟨b4, o4, A4, n4, c4, rfl, hb4, d0, d1, d2, hrd⟩ := (Hd.out.below (hbwr.mono hB)).at_ j hlt
      have hdr : ((l.drop i).take N).drop j = ((l.drop i).take N)[j] :: ((l.drop i).take N).drop (j + 1) := List.drop_eq_getElem_cons hkl
      rw [hdr] at hst
      have hstep := Lib.hid (btw_step hst.out.1 hst.out.2.1)
      obtain ⟨r, hr⟩ : ∃ r, r = ((l.drop i).take N)[j] := ⟨_, rfl⟩
      rw [← hr] at hst hstep d0 d1 hrd
      clear hr hdr
      obtain ⟨ra, rb, d⟩ := r
      simp only at d0 d1 d2 hrd hstep
      have hj0 : (0 : Int) ≤ (j : Int) := by omega
      have hjn : (j : Int) < (N : Int) := by omega
      have hgl : b4 < wr.heap.size := by have := hbwr.size; omega
      have hwb := hbwr.size
      have hw4 := hbwr.alloc hbwr.size (.cells #[.int .i64 ra, .int .i64 rb, .slice A4 n4 c4] 29)
      have hrd' := (hrd.more (show B ≤ wr.heap.size by omega)).stepA (.cells #[.int .i64 ra, .int .i64 rb, .slice A4 n4 c4] 29)
      have hrt' := hrt.out.stepA (.cells #[.int .i64 ra, .int .i64 rb, .slice A4 n4 c4] 29)
      have hcall := comp_rdn t d A3 A4 n3 n4 c3 c4 _ hrt' hrd' 0 _ hstep.out.1 rfl
      have Hcall := Lib.hid hcall
      have Hnx := Lib.hid (show doE (compL t d) S = 0 ∧ txr (doS (compL t d) S) (((l.drop i).take N).drop (j + 1)) = 0 ∧ btw (compL t d) (((l.drop i).take N).drop (j + 1)) = R from ⟨hstep.out.2.1, hstep.out.2.2, hst.out.2.2⟩)
      clear hrd hrd' hrt' hcall hst hstep
      go_wp2_with fail
      refine Hcall.out.mono ?_
      rintro e w5 ⟨A5, n5, c5, rfl, hr5, hb5⟩
      have hw5 := hw4.trans (hb5.mono hw4.size)
      have Hr5 := Lib.hid hr5
      clear hr5 hb5
      go_wp2_with fail
      go_roundw
      case rel => exact ⟨j + 1, _, _, _, _, by omega, by go_num, rfl, Hr5, Hnx, hw5⟩
      case measure => simp [intOf]; omega
    · have hjn : decide (j < N) = false := by simpa using hlt
      obtain rfl : j = N := by omega
      have h1 := hst.out.2.2
      rw [List.drop_eq_nil_of_le (by have := Hd.out.1; omega)] at h1
      have hRt : t = R := h1
      subst hRt
      clear hst h1
      go_wp2_with fail
      go_ret2
      exact ⟨_, _, _, rfl, hrt.out, hbwr⟩
theorem between_good (base : ByteArray) (l : List Rv) (A : Option Addr) (n c B i k : Nat) (w : World) (h : RdR w B A n c l) (hB : B ≤ w.heap.size) (he : txE base l = 0) (hik : i ≤ k) (hkn : k ≤ n) (R : List Pt)
    (hR : btw (allL (txt base l i).size) ((l.drop i).take (k - i)) = R) :
    Calls Try.prog 24 #[.string base, .slice A n c, .int .i64 i, .int .i64 k] w fun e w' => ∃ A1 n1 c1, e = .returned (.tuple #[.slice A1 n1 c1, .int .i64 0]) ∧ RdP w' w'.heap.size A1 n1 c1 R ∧ Below w.heap.size w w' := by
  by_cases hci : c = i
  · have := h.caps
    obtain rfl : k = i := by omega
    obtain rfl : n = k := by omega
    subst hci
    exact between_same base l A B _ w h hB he R hR
  · exact between_more base l A n c B i k w h hB he hik hkn R hR hci
end Go.Proofs.Ytfncpcmaplhojaa
