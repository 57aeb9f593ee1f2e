/- Contracts of undo.Of. -/
import Derived.Test.YtcclcgapcnjcdaaRevs
import Derived.Test.YtcclcgapcnjcdaaTurn
import Derived.Test.YtcclcgapcnjcdaaMeet
import Derived.Test.YtcclcgapcnjcdaaUndoLaw
namespace Go.Proofs.Ytcclcgapcnjcdaa
open Go.ChangeShapes Go.WideShapes Go.RowKit
set_option linter.unusedVariables false
set_option linter.unusedSimpArgs false
set_option maxRecDepth 100000
set_option maxHeartbeats 4000000

theorem meet_rdn (a b : List Pt) (A A' : Option Addr) (n n' c c' : Nat) (w : World) (h : RdP w w.heap.size A n c a) (h' : RdP w w.heap.size A' n' c' b) (z : Int) (x y : List Pt) (hz : meetE a b = z) (hx : meetC a b = x) (hy : meetD a b = y) :
    Calls Try.prog 26 #[.slice A n c, .slice A' n' c'] w fun e w' => ∃ A1 n1 c1 A2 n2 c2, e = .returned (.tuple #[.slice A1 n1 c1, .slice A2 n2 c2, .int .i64 z]) ∧
      RdP w' w'.heap.size A1 n1 c1 x ∧ RdP w' w'.heap.size A2 n2 c2 y ∧ Below w.heap.size w w' := by
  subst hz; subst hx; subst hy
  refine (meet_rd a b A A' n n' c c' w h h').mono ?_
  rintro e w' ⟨A1, c1, A2, c2, rfl, h1, h2, hb⟩
  exact ⟨_, _, _, _, _, _, rfl, h1, h2, hb⟩
theorem turn_rdn (l : List Pt) (A : Option Addr) (n c B : Nat) (s : ByteArray) (w : World) (h : RdP w B A n c l) (hB : B ≤ w.heap.size) (hs : s.size ≤ 9223372036854775807) (z : Int) (x : List Pt) (hz : doE l s = z) (hx : turnL l s = x) :
    Calls Try.prog 73 #[.slice A n c, .string s] w fun e w' => ∃ A n c, e = .returned (.tuple #[.slice A n c, .int .i64 z]) ∧ RdP w' w'.heap.size A n c x ∧ Below w.heap.size w w' := by
  subst hz; subst hx
  refine (turn_rd l A n c B s w h hB hs).mono ?_
  rintro e w' ⟨A1, c1, rfl, h1, hb⟩
  exact ⟨_, _, _, rfl, h1, hb⟩
theorem undo_err (base : ByteArray) (l : List Rv) (A : Option Addr) (n c B : Nat) (k : Int) (w : World) (h : RdR w B A n c l) (hB : B ≤ w.heap.size) (hbs : base.size ≤ 9223372036854775807) (he : txE base l ≠ 0) :
    Calls Try.prog 44 #[.string base, .slice A n c, .int .i64 k] w fun e w' => e = .returned (.tuple #[.slice none 0 0, .int .i64 (txE base l)]) ∧ Below w.heap.size w w' := by
  have hc := rcheck_any base l A n c B w h hB hbs
  have Hc := Lib.hid hc
  have hne : (txE base l != 0) = true := by simpa using he
  clear hc h he
  go_enter Try.func44, Try.ntmps44
  go_wp2_with fail
  refine Hc.out.mono ?_
  rintro e w1 ⟨rfl, hb⟩
  go_wp2_with fail
  go_ret2
  exact ⟨rfl, hb⟩
theorem undo_arg (base : ByteArray) (l : List Rv) (A : Option Addr) (n c B : Nat) (k : Int) (w : World) (h : RdR w B A n c l) (hB : B ≤ w.heap.size) (hbs : base.size ≤ 9223372036854775807) (he : txE base l = 0) (hk : k < 1 ∨ (n : Int) < k) :
    Calls Try.prog 44 #[.string base, .slice A n c, .int .i64 k] w fun e w' => e = .returned (.tuple #[.slice none 0 0, .int .i64 1]) ∧ Below w.heap.size w w' := by
  have hc := rcheck_any base l A n c B w h hB hbs
  rw [he] at hc
  have Hc := Lib.hid hc
  have hle := h.le
  clear hc h he
  rcases (show k < 1 ∨ (1 ≤ k ∧ (n : Int) < k) by omega) with h1 | ⟨h1, h2⟩
  all_goals
    clear hk
    go_enter Try.func44, Try.ntmps44
    go_wp2_with fail
    refine Hc.out.mono ?_
    rintro e w1 ⟨rfl, hb⟩
    go_wp2_with fail
    go_ret2
    exact ⟨rfl, hb⟩
theorem undo_last (base : ByteArray) (l : List Rv) (A : Option Addr) (n c B k m : Nat) (w : World) (h : RdR w B A n c l) (hB : B ≤ w.heap.size) (he : txE base l = 0) (hm : k = m + 1) (hkn : k = n) (hkc : k = c)
    (d0 : List Pt) (hd0 : ∀ (hm : m < l.length), (l[m]'hm).2.2 = d0) (T : List Pt) (hT : turnL d0 (txt base l m) = T) :
    Calls Try.prog 44 #[.string base, .slice A n c, .int .i64 k] w fun e w' => ∃ A1 n1 c1, e = .returned (.tuple #[.slice A1 n1 c1, .int .i64 0]) ∧ RdP w' w'.heap.size A1 n1 c1 T ∧ Below w.heap.size w w' := by
  subst hkn
  subst hkc
  have hp := txE_parts he
  have hl : k = l.length := h.1
  have hc := rcheck_any base l A k k B w h hB (by omega)
  rw [he] at hc
  have Hc := Lib.hid hc
  have H := Lib.hid h
  have He := Lib.hid he
  have hat := txr_at l base m (by omega) hp.2.2
  rw [hd0] at hat
  have Hat := Lib.hid hat.2.1
  have Hd0 := Lib.hid hd0
  clear hat hd0
  have hts := txt_size l base m hp.1
  have HT := Lib.hid hT
  have hk1 : (k : Int) - 1 = (m : Int) := by omega
  have hk2 : (1 : Int) ≤ (k : Int) := by omega
  have hm0 : (0 : Int) ≤ (m : Int) := by omega
  have hmk : (m : Int) < (k : Int) := by omega
  have hk64 : (k : Int) ≤ 64 := by omega
  have Hl := Lib.hid hl
  have Hm := Lib.hid hm
  clear hc h he hT hl hp hm
  go_enter Try.func44, Try.ntmps44
  go_wp2_with fail
  refine Hc.out.mono ?_
  rintro e w1 ⟨rfl, hb1⟩
  go_wp2_with fail
  refine (rtext_good base l A k k B m w1 (H.out.below (hb1.mono hB)) (by have := hb1.size; omega) He.out (by have := Hm.out; have := Hl.out; omega)).mono ?_
  rintro e w2 ⟨rfl, hb2⟩
  have hw2 := hb1.trans (hb2.mono hb1.size)
  clear hb1 hb2
  obtain ⟨b, o, A2, n2, c2, rfl, hb, g0, g1, g2, hrd⟩ := (H.out.below (hw2.mono hB)).at_ m (by have := Hm.out; omega)
  obtain ⟨S, hS⟩ : ∃ S, txt base l m = S := ⟨_, rfl⟩
  rw [hS] at hts Hat HT ⊢
  rw [Hd0.out] at hrd
  have hbw := hw2.size
  have Htn := Lib.hid (turn_rdn d0 A2 n2 c2 B S w2 hrd (by omega) (by omega) 0 T Hat.out HT.out)
  clear hS g0 g1 hrd
  go_wp2_with fail
  refine Htn.out.mono ?_
  rintro e w3 ⟨A3, n3, c3, rfl, hr3, hb3⟩
  have hw3 := hw2.trans (hb3.mono hw2.size)
  have Hr3 := Lib.hid hr3
  clear hr3 hb3
  go_wp2_with fail
  go_loopw [11, 14, 15, 53] (fun ov pv ev i wr => i = .int .i64 0 ∧ ov = .slice A3 n3 c3 ∧ wr = w3) (fun _ _ _ i _ => 0)
  case atStart => exact ⟨rfl, rfl, rfl⟩
  case round =>
    obtain ⟨rfl, rfl, rfl⟩ := hrel
    go_wp2_with fail
    go_ret2
    exact ⟨_, _, _, rfl, Hr3.out, hw3⟩
theorem undo_more (base : ByteArray) (l : List Rv) (A : Option Addr) (n c B k m : Nat) (w : World) (h : RdR w B A n c l) (hB : B ≤ w.heap.size) (he : txE base l = 0) (hm : k = m + 1) (hkn : k ≤ n) (hkc : k < c)
    (d0 : List Pt) (hd0 : ∀ (hm : m < l.length), (l[m]'hm).2.2 = d0) (T : List Pt) (hT : turnL d0 (txt base l m) = T) (E : Int) (R : List Pt) (hE : mtE T (l.drop k) = E ∧ (E = 0 → mtL T (l.drop k) = R)) (hR : E ≠ 0 → R = []) :
    Calls Try.prog 44 #[.string base, .slice A n c, .int .i64 k] w fun e w' => ∃ A1 n1 c1, e = .returned (.tuple #[.slice A1 n1 c1, .int .i64 E]) ∧ RdP w' w'.heap.size A1 n1 c1 R ∧ Below w.heap.size w w' := by
  have hp := txE_parts he
  have hl : n = l.length := h.1
  have hc := rcheck_any base l A n c B w h hB (by omega)
  rw [he] at hc
  have Hc := Lib.hid hc
  have H := Lib.hid h
  have He := Lib.hid he
  have HE := Lib.hid hE
  have HR := Lib.hid hR
  have hcaps := h.caps
  have hat := txr_at l base m (by omega) hp.2.2
  rw [hd0] at hat
  have Hat := Lib.hid hat.2.1
  have Hd0 := Lib.hid hd0
  clear hat hd0
  have hts := txt_size l base m hp.1
  have HT := Lib.hid hT
  have hk1 : (k : Int) - 1 = (m : Int) := by omega
  have hk2 : (1 : Int) ≤ (k : Int) := by omega
  have hm0 : (0 : Int) ≤ (m : Int) := by omega
  have hmk : (m : Int) < (n : Int) := by omega
  have hk64 : (n : Int) ≤ 64 := by omega
  have hkn' : (k : Int) ≤ (n : Int) := by omega
  have hnc : (n : Int) ≤ (c : Int) := by omega
  have hkc' : (k : Int) ≤ (c : Int) := by omega
  have hk0 : (0 : Int) ≤ (k : Int) := by omega
  have Hl := Lib.hid hl
  have Hm := Lib.hid hm
  obtain ⟨b, o, hA⟩ : ∃ b o, A = some ⟨b, o, none⟩ := by
    obtain ⟨b, o, _, _, _, hA, _⟩ := h.at_ m (by omega)
    exact ⟨b, o, hA⟩
  subst hA
  have hdrop : RdR w B (some ⟨b, o + k * 3, none⟩) (n - k) (c - k) (l.drop k) := h.drop k hkn _ (fun _ b' o' e => by injection e with e; injection e with e1 e2; subst e1; subst e2; rfl)
  obtain ⟨N, hN⟩ : ∃ N, n - k = N := ⟨_, rfl⟩
  rw [hN] at hdrop
  have hN64 : (N : Int) ≤ 64 := by omega
  have Hd := Lib.hid hdrop
  have hkcne : (c = k) = False := by simp; omega
  clear hc h he hT hl hp hm hE hR hdrop
  go_enter Try.func44, Try.ntmps44
  go_wp2_with fail
  refine Hc.out.mono ?_
  rintro e w1 ⟨rfl, hb1⟩
  go_wp2_with fail
  refine (rtext_good base l _ n c B m w1 (H.out.below (hb1.mono hB)) (by have := hb1.size; omega) He.out (by have := Hm.out; have := Hl.out; omega)).mono ?_
  rintro e w2 ⟨rfl, hb2⟩
  have hw2 := hb1.trans (hb2.mono hb1.size)
  clear hb1 hb2
  obtain ⟨b2, o2, A2, n2, c2, e2, hb, g0, g1, g2, hrd⟩ := (H.out.below (hw2.mono hB)).at_ m (by have := Hm.out; omega)
  obtain ⟨rfl, rfl⟩ : b2 = b ∧ o2 = o := by injection e2 with e2; injection e2 with e3 e4; exact ⟨e3.symm, e4.symm⟩
  obtain ⟨S, hS⟩ : ∃ S, txt base l m = S := ⟨_, rfl⟩
  rw [hS] at hts Hat HT ⊢
  rw [Hd0.out] at hrd
  have hbw := hw2.size
  have Htn := Lib.hid (turn_rdn d0 A2 n2 c2 B S w2 hrd (by omega) (by omega) 0 T Hat.out HT.out)
  clear hS g0 g1 hrd e2
  go_wp2_with fail
  refine Htn.out.mono ?_
  rintro e w3 ⟨A3, n3, c3, rfl, hr3, hb3⟩
  have hw3 := hw2.trans (hb3.mono hw2.size)
  have Hr3 := Lib.hid hr3
  clear hr3 hb3
  go_wp2_with fail
  go_loopw [11, 14, 15, 53] (fun ov pv ev i wr => ∃ (j : Nat) (A1 : Option Addr) (n1 c1 : Nat) (t : List Pt), j ≤ N ∧ i = .int .i64 j ∧ ov = .slice A1 n1 c1 ∧ Hid (RdP wr wr.heap.size A1 n1 c1 t) ∧ Hid (mtE t ((l.drop k).drop j) = E ∧ (E = 0 → mtL t ((l.drop k).drop j) = R)) ∧ Below w.heap.size w wr) (fun _ _ _ i _ => N - (intOf i).toNat)
  case atStart => exact ⟨0, _, _, _, T, by omega, rfl, rfl, Hr3, Lib.hid (by rw [List.drop_zero]; exact HE.out), hw3⟩
  case round =>
    obtain ⟨j, A1, n1, c1, t, hj, rfl, rfl, hrt, hst, hbwr⟩ := hrel
    by_cases hlt : j < N
    · have hkl : j < (l.drop k).length := by have := Hd.out.1; omega
      obtain ⟨b4, o4, A4, n4, c4, e4, hb4, d0, d1, d2, hrd⟩ := (Hd.out.below (hbwr.mono hB)).at_ j hlt
      obtain ⟨rfl, rfl⟩ : b4 = b2 ∧ o4 = o2 + k * 3 := by injection e4 with e4; injection e4 with e5 e6; exact ⟨e5.symm, e6.symm⟩
      have hdr : (l.drop k).drop j = (l.drop k)[j] :: (l.drop k).drop (j + 1) := List.drop_eq_getElem_cons hkl
      rw [hdr] at hst
      have hstep := Lib.hid (mt_step hst.out)
      obtain ⟨r, hr⟩ : ∃ r, r = (l.drop k)[j] := ⟨_, rfl⟩
      rw [← hr] at hst hstep d0 d1 hrd
      clear hr hdr e4
      obtain ⟨ra, rb, d⟩ := r
      simp only at d0 d1 d2 hrd hstep
      have hj0 : (0 : Int) ≤ (j : Int) := by omega
      have hjn : (j : Int) < (N : Int) := by omega
      have hgl : b4 < wr.heap.size := by have := hbwr.size; omega
      have hwb := hbwr.size
      have hw4 := hbwr.alloc hbwr.size (.cells #[.int .i64 ra, .int .i64 rb, .slice A4 n4 c4] 66)
      obtain ⟨z, hz⟩ : ∃ z, meetE d t = z := ⟨_, rfl⟩
      have Hz := Lib.hid hz
      have hrd' := (hrd.more (show B ≤ wr.heap.size by omega)).stepA (.cells #[.int .i64 ra, .int .i64 rb, .slice A4 n4 c4] 66)
      have hrt' := hrt.out.stepA (.cells #[.int .i64 ra, .int .i64 rb, .slice A4 n4 c4] 66)
      have hcall := meet_rdn d t A4 A1 n4 n1 c4 c1 _ hrd' hrt' z _ _ hz rfl rfl
      have Hcall := Lib.hid hcall
      clear hrd hrd' hrt' hcall hz
      go_wp2_with fail
      refine Hcall.out.mono ?_
      rintro e w5 ⟨A5, n5, c5, A6, n6, c6, rfl, hr5, hr6, hb5⟩
      have hw5 := hw4.trans (hb5.mono hw4.size)
      have Hr6 := Lib.hid hr6
      clear hr5 hr6 hb5
      by_cases hz0 : z = 0
      · subst hz0
        have Hnx := Lib.hid (hstep.out.2 Hz.out)
        clear hst hstep
        go_wp2_with fail
        go_roundw
        case rel => exact ⟨j + 1, _, _, _, _, by omega, by go_num, rfl, Hr6, Hnx, hw5⟩
        case measure => simp [intOf]; omega
      · have hEz : E = z := by rw [hstep.out.1 (by rw [Hz.out]; exact hz0)]; exact Hz.out
        have hz1 : (z != 0) = true := by simpa using hz0
        have hRn := HR.out (by rw [hEz]; exact hz0)
        subst hRn
        subst hEz
        clear hst hstep
        go_wp2_with fail
        go_ret2
        exact ⟨_, _, _, rfl, RdP.none_ (Nat.zero_le _), hw5⟩
    · have hjn : decide (j < N) = false := by simpa using hlt
      obtain rfl : j = N := by omega
      have h1 := hst.out
      rw [List.drop_eq_nil_of_le (by have := Hd.out.1; omega)] at h1
      obtain ⟨h2, h3⟩ := h1
      have hE0 : E = 0 := h2.symm
      subst hE0
      have hRt : t = R := h3 rfl
      subst hRt
      clear hst h2 h3
      go_wp2_with fail
      go_ret2
      exact ⟨_, _, _, rfl, hrt.out, hbwr⟩
theorem undo_good (base : ByteArray) (l : List Rv) (A : Option Addr) (n c B k m : Nat) (w : World) (h : RdR w B A n c l) (hB : B ≤ w.heap.size) (he : txE base l = 0) (hm : k = m + 1) (hkn : k ≤ n)
    (d0 : List Pt) (hd0 : ∀ (hm : m < l.length), (l[m]'hm).2.2 = d0) (T : List Pt) (hT : turnL d0 (txt base l m) = T) (E : Int) (R : List Pt) (hE : mtE T (l.drop k) = E ∧ (E = 0 → mtL T (l.drop k) = R)) (hR : E ≠ 0 → R = []) :
    Calls Try.prog 44 #[.string base, .slice A n c, .int .i64 k] w fun e w' => ∃ A1 n1 c1, e = .returned (.tuple #[.slice A1 n1 c1, .int .i64 E]) ∧ RdP w' w'.heap.size A1 n1 c1 R ∧ Below w.heap.size w w' := by
  have hcaps := h.caps
  by_cases hkc : k = c
  · have hd : l.drop k = [] := List.drop_eq_nil_of_le (by have := h.1; omega)
    rw [hd] at hE
    obtain ⟨h1, h2⟩ := hE
    have hE0 : E = 0 := h1.symm
    subst hE0
    have hRt : T = R := h2 rfl
    subst hRt
    exact undo_last base l A n c B k m w h hB he hm (by omega) hkc d0 hd0 T hT
  · exact undo_more base l A n c B k m w h hB he hm hkn (by omega) d0 hd0 T hT E R hE hR
end Go.Proofs.Ytcclcgapcnjcdaa
