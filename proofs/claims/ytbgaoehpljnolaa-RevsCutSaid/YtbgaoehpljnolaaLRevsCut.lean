/- RevsCut: the walk. The beginning of a history is one, and so is its end. -/
import Derived.Test.YtbgaoehpljnolaaRevs
import Derived.Test.YtbgaoehpljnolaaOpenRevs
import Derived.Test.YtbgaoehpljnolaaWithin
import Derived.Test.YtbgaoehpljnolaaMinMax
namespace Go.Proofs.Ytbgaoehpljnolaa
open Go.ChangeShapes Go.WideShapes Go.RowKit
set_option linter.unusedVariables false
set_option linter.unusedSimpArgs false
set_option maxRecDepth 100000
set_option maxHeartbeats 4000000


theorem revsCut_err (base : ByteArray) (l : List Rv) (A : Option Addr) (n c : Nat) (k i : Int) (hs : base.size ≤ 140737488351232) (w : World) (h : RdR w w.heap.size A n c l) (h1 : txE base l ≠ 0) :
    Calls Try.prog 12 #[.string base, .slice A n c, .int .i64 k, .int .i64 i] w fun e w' => e = .returned (.bool true) ∧ Below w.heap.size w w' := by
  have hbw0 : Below w.heap.size w w := Below.refl _ _
  have Hl := Lib.hid h
  clear h
  have hne : (txE base l != 0) = true := by simpa using h1
  have H1 := Lib.hid h1
  clear h1
  go_enter Try.func12, Try.ntmps12
  go_wp2_with fail
  have hc_ := rtext_good ⟨#[97, 98]⟩ [] none 0 0 0 0 w (RdR.nil _ _) (Nat.zero_le _) (by decide) (by decide)
  rw [show txt ⟨#[97, 98]⟩ [] 0 = ⟨#[97, 98]⟩ from rfl] at hc_
  refine (hc_).mono ?_
  rintro e w1 ⟨rfl, hb1⟩
  have hbw1 := hbw0.trans (hb1.mono hbw0.size)
  have Hl1 := Lib.hid (RdR.step Hl.out hb1)
  clear Hl
  have Hl := Hl1
  clear Hl1
  clear hb1
  clear hc_
  go_wp2_with fail
  refine (rcheck_any base l A n c _ _ Hl.out (Nat.le_refl _) (by omega)).mono ?_
  rintro e w2 ⟨rfl, hb2⟩
  have hbw2 := hbw1.trans (hb2.mono hbw1.size)
  have Hl2 := Lib.hid (RdR.step Hl.out hb2)
  clear Hl
  have Hl := Hl2
  clear Hl2
  clear hb2
  go_wp2_with fail
  go_ret
  exact ⟨rfl, hbw2⟩
theorem revsCut_ok (base : ByteArray) (l : List Rv) (A : Option Addr) (n c : Nat) (k i : Int) (hs : base.size ≤ 140737488351232) (w : World) (h : RdR w w.heap.size A n c l) (h1 : txE base l = 0) :
    Calls Try.prog 12 #[.string base, .slice A n c, .int .i64 k, .int .i64 i] w fun e w' => e = .returned (.bool true) ∧ Below w.heap.size w w' := by
  have hbw0 : Below w.heap.size w w := Below.refl _ _
  have Hl := Lib.hid h
  clear h
  have H1 := Lib.hid h1
  clear h1
  have hn : n = l.length := Hl.out.1
  have Hn := Lib.hid hn
  have hcaps := Hl.out.caps
  have hn64 : (n : Int) ≤ 64 := by have := (txE_parts H1.out).2.1; omega
  clear hn
  go_enter Try.func12, Try.ntmps12
  go_wp2_with fail
  have hc_ := rtext_good ⟨#[97, 98]⟩ [] none 0 0 0 0 w (RdR.nil _ _) (Nat.zero_le _) (by decide) (by decide)
  rw [show txt ⟨#[97, 98]⟩ [] 0 = ⟨#[97, 98]⟩ from rfl] at hc_
  refine (hc_).mono ?_
  rintro e w1 ⟨rfl, hb1⟩
  have hbw1 := hbw0.trans (hb1.mono hbw0.size)
  have Hl1 := Lib.hid (RdR.step Hl.out hb1)
  clear Hl
  have Hl := Hl1
  clear Hl1
  clear hb1
  clear hc_
  go_wp2_with fail
  have hc_ := rcheck_any base l A n c _ _ Hl.out (Nat.le_refl _) (by omega)
  rw [H1.out] at hc_
  refine (hc_).mono ?_
  rintro e w2 ⟨rfl, hb2⟩
  have hbw2 := hbw1.trans (hb2.mono hbw1.size)
  have Hl2 := Lib.hid (RdR.step Hl.out hb2)
  clear Hl
  have Hl := Hl2
  clear Hl2
  clear hb2
  clear hc_
  go_wp2_with fail
  have hcast : ((n + 1 : Nat) : Int) = (n : Int) + 1 := by omega
  have Hcast := Lib.hid hcast
  clear hcast
  have hc := within_any k (n + 1) w2 (by omega) (by omega)
  rw [Hcast.out] at hc
  refine (hc).mono ?_
  rintro e w3 ⟨rfl, rfl⟩
  clear hc
  have hK := wi_lt k (n + 1) (by omega)
  generalize wi k (n + 1) = K at *
  go_wp2_with fail
  have hc := within_any i (n + 1) w2 (by omega) (by omega)
  rw [Hcast.out] at hc
  refine (hc).mono ?_
  rintro e w4 ⟨rfl, rfl⟩
  clear hc
  have hI := wi_lt i (n + 1) (by omega)
  generalize wi i (n + 1) = I at *
  go_wp2_with fail
  refine (rtext_good base l A n c _ K _ Hl.out (Nat.le_refl _) H1.out (by have := Hn.out; omega)).mono ?_
  rintro e w5 ⟨rfl, hb5⟩
  have hbw5 := hbw2.trans (hb5.mono hbw2.size)
  have Hl5 := Lib.hid (RdR.step Hl.out hb5)
  clear Hl
  have Hl := Hl5
  clear Hl5
  clear hb5
  go_wp2_with fail
  refine (rtext_good base l A n c _ I _ Hl.out (Nat.le_refl _) H1.out (by have := Hn.out; omega)).mono ?_
  rintro e w6 ⟨rfl, hb6⟩
  have hbw6 := hbw5.trans (hb6.mono hbw5.size)
  have Hl6 := Lib.hid (RdR.step Hl.out hb6)
  clear Hl
  have Hl := Hl6
  clear Hl6
  clear hb6
  have hKn : (K : Int) ≤ (n : Int) := by omega
  have hK0 : (0 : Int) ≤ (K : Int) := by omega
  have hnc : (n : Int) ≤ (c : Int) := by omega
  have hKc : (K : Int) ≤ (c : Int) := by omega
  go_wp2_with fail
  have hc_ := rcheck_any base (l.take K) A K c _ _ (Hl.out.take K (by omega)) (Nat.le_refl _) (by omega)
  rw [txE_take H1.out K] at hc_
  refine (hc_).mono ?_
  rintro e w7 ⟨rfl, hb7⟩
  have hbw7 := hbw6.trans (hb7.mono hbw6.size)
  have Hl7 := Lib.hid (RdR.step Hl.out hb7)
  clear Hl
  have Hl := Hl7
  clear Hl7
  clear hb7
  clear hc_
  have hms := txt_size l base K (txE_parts H1.out).1
  have Hd := Lib.hid (txE_drop H1.out K)
  have Hdt := Lib.hid (txt_drop l base K)
  have Htt := Lib.hid (txt_take l base K)
  obtain ⟨mid, hmid⟩ : ∃ mid, txt base l K = mid := ⟨_, rfl⟩
  rw [hmid] at hms Hd Hdt ⊢
  clear hmid
  obtain ⟨J, hJ⟩ : ∃ J, max (0 : Int) ((I : Int) - (K : Int)) = ((J : Nat) : Int) ∧ J = I - K := ⟨I - K, by omega, rfl⟩
  have HJ := Lib.hid hJ.1
  have hJ2 := hJ.2
  have HJ2 := Lib.hid hJ2
  clear hJ hJ2
  by_cases hcK : c = K
  · have hcK2 : K = c := hcK.symm
    subst hcK2
    clear hcK
    have hdrop : RdR w7 w7.heap.size A 0 0 (l.drop K) := by
      have := Hl.out.drop K (by omega) A (fun h => by omega)
      rwa [show K - K = 0 by omega, show n - K = 0 by omega] at this
    have Hdd := Lib.hid hdrop
    clear hdrop
    go_wp2_with fail
    have hc_ := rcheck_any mid (l.drop K) A 0 0 _ _ Hdd.out (Nat.le_refl _) (by omega)
    rw [Hd.out] at hc_
    refine (hc_).mono ?_
    rintro e w8 ⟨rfl, hb8⟩
    have hbw8 := hbw7.trans (hb8.mono hbw7.size)
    have Hl8 := Lib.hid (RdR.step Hl.out hb8)
    clear Hl
    have Hl := Hl8
    clear Hl8
    have Hdd8 := Lib.hid (RdR.step Hdd.out hb8)
    clear Hdd
    have Hdd := Hdd8
    clear Hdd8
    clear hb8
    clear hc_
    go_wp2_with (first | (refine wpList_max2 rfl (.const (.int .i64 0)) (.tmp 83) _ rfl _ _ _ rfl rfl HJ.out ?_))
    have hc_ := rtext_good mid (l.drop K) A 0 0 _ J _ Hdd.out (Nat.le_refl _) Hd.out (by rw [List.length_drop]; have := Hn.out; have := HJ2.out; omega)
    rw [Hdt.out J] at hc_
    refine (hc_).mono ?_
    rintro e w9 ⟨rfl, hb9⟩
    have hbw9 := hbw8.trans (hb9.mono hbw8.size)
    have Hl9 := Lib.hid (RdR.step Hl.out hb9)
    clear Hl
    have Hl := Hl9
    clear Hl9
    have Hdd9 := Lib.hid (RdR.step Hdd.out hb9)
    clear Hdd
    have Hdd := Hdd9
    clear Hdd9
    clear hb9
    clear hc_
    by_cases hIK : I < K
    · have hIKi : (I : Int) < (K : Int) := by omega
      go_wp2_with fail
      have hc_ := rtext_good base (l.take K) A K K _ I _ (Hl.out.take K (by omega)) (Nat.le_refl _) (txE_take H1.out K) (by rw [List.length_take]; have := Hn.out; omega)
      rw [Htt.out I (by omega)] at hc_
      refine (hc_).mono ?_
      rintro e w10 ⟨rfl, hb10⟩
      have hbw10 := hbw9.trans (hb10.mono hbw9.size)
      have Hl10 := Lib.hid (RdR.step Hl.out hb10)
      clear Hl
      have Hl := Hl10
      clear Hl10
      have Hdd10 := Lib.hid (RdR.step Hdd.out hb10)
      clear Hdd
      have Hdd := Hdd10
      clear Hdd10
      clear hb10
      clear hc_
      go_wp2_with fail
      go_ret
      exact ⟨rfl, hbw10⟩
    · have hIKd : decide (I < K) = false := by simpa using hIK
      have hKJ : K + J = I := by have := HJ2.out; omega
      rw [hKJ]
      clear hIK hKJ
      go_wp2_with fail
      go_ret
      exact ⟨rfl, hbw9⟩
  · have hdrop : RdR w7 w7.heap.size (Option.map (fun x => x.add (K * 3)) A) (n - K) (c - K) (l.drop K) := Hl.out.drop K (by omega) _ (fun _ b o e => by
      rw [e]
      simp only [Option.map_some, Addr.add]
      by_cases h0 : K * 3 = 0
      · simp [h0]
      · simp [h0])
    have Hdd := Lib.hid hdrop
    clear hdrop
    go_wp2_with fail
    have hc_ := rcheck_any mid (l.drop K) (Option.map (fun x => x.add (K * 3)) A) (n - K) (c - K) _ _ Hdd.out (Nat.le_refl _) (by omega)
    rw [Hd.out] at hc_
    refine (hc_).mono ?_
    rintro e w8 ⟨rfl, hb8⟩
    have hbw8 := hbw7.trans (hb8.mono hbw7.size)
    have Hl8 := Lib.hid (RdR.step Hl.out hb8)
    clear Hl
    have Hl := Hl8
    clear Hl8
    have Hdd8 := Lib.hid (RdR.step Hdd.out hb8)
    clear Hdd
    have Hdd := Hdd8
    clear Hdd8
    clear hb8
    clear hc_
    go_wp2_with (first | (refine wpList_max2 rfl (.const (.int .i64 0)) (.tmp 83) _ rfl _ _ _ rfl rfl HJ.out ?_))
    have hc_ := rtext_good mid (l.drop K) (Option.map (fun x => x.add (K * 3)) A) (n - K) (c - K) _ J _ Hdd.out (Nat.le_refl _) Hd.out (by rw [List.length_drop]; have := Hn.out; have := HJ2.out; omega)
    rw [Hdt.out J] at hc_
    refine (hc_).mono ?_
    rintro e w9 ⟨rfl, hb9⟩
    have hbw9 := hbw8.trans (hb9.mono hbw8.size)
    have Hl9 := Lib.hid (RdR.step Hl.out hb9)
    clear Hl
    have Hl := Hl9
    clear Hl9
    have Hdd9 := Lib.hid (RdR.step Hdd.out hb9)
    clear Hdd
    have Hdd := Hdd9
    clear Hdd9
    clear hb9
    clear hc_
    by_cases hIK : I < K
    · have hIKi : (I : Int) < (K : Int) := by omega
      go_wp2_with fail
      have hc_ := rtext_good base (l.take K) A K c _ I _ (Hl.out.take K (by omega)) (Nat.le_refl _) (txE_take H1.out K) (by rw [List.length_take]; have := Hn.out; omega)
      rw [Htt.out I (by omega)] at hc_
      refine (hc_).mono ?_
      rintro e w10 ⟨rfl, hb10⟩
      have hbw10 := hbw9.trans (hb10.mono hbw9.size)
      have Hl10 := Lib.hid (RdR.step Hl.out hb10)
      clear Hl
      have Hl := Hl10
      clear Hl10
      have Hdd10 := Lib.hid (RdR.step Hdd.out hb10)
      clear Hdd
      have Hdd := Hdd10
      clear Hdd10
      clear hb10
      clear hc_
      go_wp2_with fail
      go_ret
      exact ⟨rfl, hbw10⟩
    · have hIKd : decide (I < K) = false := by simpa using hIK
      have hKJ : K + J = I := by have := HJ2.out; omega
      rw [hKJ]
      clear hIK hKJ
      go_wp2_with fail
      go_ret
      exact ⟨rfl, hbw9⟩
theorem walk_RevsCut (base : ByteArray) (hs : base.size ≤ 140737488351232) (v : Value) (l : List Rv) (k : Int) (wk : (Lit.int .i64 k).wf = true) (i : Int) (wi_ : (Lit.int .i64 i).wf = true) (w : World) (hx : IsRevs w v l) :
    Calls Try.prog 12 #[.string base, v, .int .i64 k, .int .i64 i] w fun e w' => e = .returned (.bool true) ∧ Below w.heap.size w w' := by
  obtain ⟨A, n, c, rfl, h⟩ := hx
  by_cases h1 : txE base l = 0
  · exact revsCut_ok base l A n c k i hs w h h1
  · exact revsCut_err base l A n c k i hs w h h1
end Go.Proofs.Ytbgaoehpljnolaa
