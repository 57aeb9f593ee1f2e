/- CodeBack: the walk. What is written is read again, and no beginning of it is. -/
import Derived.Test.YtbgaoehpljnolaaCodeRd
import Derived.Test.YtbgaoehpljnolaaCode
import Derived.Test.YtbgaoehpljnolaaSame
import Derived.Test.YtbgaoehpljnolaaRefIn
import Derived.Test.YtbgaoehpljnolaaWithin
import Derived.Test.YtbgaoehpljnolaaOpenParts
namespace Go.Proofs.Ytbgaoehpljnolaa
open Go.ChangeShapes Go.WideShapes Go.RowKit
set_option linter.unusedVariables false
set_option linter.unusedSimpArgs false
set_option maxRecDepth 100000
set_option maxHeartbeats 4000000


theorem wrL_ab : (⟨#[1, 10, 97, 98]⟩ : ByteArray).data.toList = wrL [(2, 0, ⟨#[97, 98]⟩)] := by
  show _ = vi 1 ++ ((vi 10 ++ [97, 98]) ++ [])
  rw [vi_lt 1 (by decide), vi_lt 10 (by decide)]; rfl
theorem wrP_most (p : Pt) (h : fitE p = 0) : (wrP p).length ≤ 505 := by
  rcases fit_bounds p h with ⟨h1, h2, h3, h4⟩ | ⟨h1, h2, h3, h4⟩
  · have hk : p.1 ≠ 2 := by omega
    unfold wrP
    rw [if_neg hk]
    have := vi_len 5 (4 * p.2.1.toNat + p.1.toNat) (by omega) (by omega)
    omega
  · unfold wrP
    rw [if_pos h1, List.length_append, bs_len]
    have := vi_len 5 (4 * p.2.2.size + 2) (by omega) (by omega)
    omega
theorem wrL_len {l : List Pt} (h : chk l = 0) : (wrL l).length ≤ 1000000 ∧ 0 < (wrL l).length := by
  have hp := chk_parts h
  have hf : ∀ m : List Pt, (∀ p ∈ m, fitE p = 0) → (m.flatMap wrP).length ≤ 505 * m.length := by
    intro m
    induction m with
    | nil => intro _; simp
    | cons p m ih =>
      intro h
      have h1 := wrP_most p (h p (by simp))
      have h2 := ih fun q hq => h q (by simp [hq])
      rw [List.flatMap_cons, List.length_append, List.length_cons]
      omega
  have h1 := hf l hp.2.2.2.2.2
  have h2 := hp.1
  unfold wrL
  rw [List.length_append]
  have h3 := vi_len 5 l.length (by omega) (by omega)
  have h4 := vi_pos l.length
  omega
theorem wr_ex (l : List Pt) : ∃ S : ByteArray, S.data.toList = wrL l := ⟨⟨(wrL l).toArray⟩, rfl⟩
theorem wrL_inj {a b : List Pt} (ha : chk a = 0) (hb : chk b = 0) (h : wrL a = wrL b) : a = b := by
  rw [← (read_back ha).2, h, (read_back hb).2]

theorem codeBack_err (a b : List Pt) (A A' : Option Addr) (n n' c c' : Nat) (k : Int) (w : World) (ha : RdP w w.heap.size A n c a) (hb : RdP w w.heap.size A' n' c' b) (h1 : chk a ≠ 0) :
    Calls Try.prog 13 #[.slice A n c, .slice A' n' c', .int .i64 k] w fun e w' => e = .returned (.bool true) ∧ Below w.heap.size w w' := by
  have hbw0 : Below w.heap.size w w := Below.refl _ _
  have hne : (chk a != 0) = true := by simpa using h1
  have H1 := Lib.hid h1
  clear h1
  have Ha := Lib.hid ha
  clear ha
  have Hb := Lib.hid hb
  clear hb
  go_enter Try.func13, Try.ntmps13
  go_wp2_with fail
  have hc := put_any ⟨#[97, 98]⟩ (by decide) w
  refine (hc).mono ?_
  rintro e w1 ⟨Aq, rfl, hrq, hb1⟩
  have hbw1 := hbw0.trans (hb1.mono hbw0.size)
  have Ha1 := Lib.hid (RdP.step Ha.out hb1)
  clear Ha
  have Ha := Ha1
  clear Ha1
  have Hb1 := Lib.hid (RdP.step Hb.out hb1)
  clear Hb
  have Hb := Hb1
  clear Hb1
  clear hb1
  clear hc
  have Hq := Lib.hid hrq
  clear hrq
  go_wp2_with fail
  refine (cwrite_good [(2, 0, ⟨#[97, 98]⟩)] Aq 1 1 _ _ (⟨#[1, 10, 97, 98]⟩) Hq.out (Nat.le_refl _) (by decide) wrL_ab).mono ?_
  rintro e w2 ⟨rfl, hb2⟩
  have hbw2 := hbw1.trans (hb2.mono hbw1.size)
  have Ha2 := Lib.hid (RdP.step Ha.out hb2)
  clear Ha
  have Ha := Ha2
  clear Ha2
  have Hb2 := Lib.hid (RdP.step Hb.out hb2)
  clear Hb
  have Hb := Hb2
  clear Hb2
  have Hq2 := Lib.hid (RdP.step Hq.out hb2)
  clear Hq
  have Hq := Hq2
  clear Hq2
  clear hb2
  go_wp2_with fail
  clear Hq
  refine (cwrite_err a A n c _ _ Ha.out (Nat.le_refl _) H1.out).mono ?_
  rintro e w3 ⟨rfl, hb3⟩
  have hbw3 := hbw2.trans (hb3.mono hbw2.size)
  have Ha3 := Lib.hid (RdP.step Ha.out hb3)
  clear Ha
  have Ha := Ha3
  clear Ha3
  have Hb3 := Lib.hid (RdP.step Hb.out hb3)
  clear Hb
  have Hb := Hb3
  clear Hb3
  clear hb3
  go_wp2_with fail
  refine (chk_any a A n c _ _ Ha.out (Nat.le_refl _)).mono ?_
  rintro e w4 ⟨rfl, hb4⟩
  have hbw4 := hbw3.trans (hb4.mono hbw3.size)
  have Ha4 := Lib.hid (RdP.step Ha.out hb4)
  clear Ha
  have Ha := Ha4
  clear Ha4
  have Hb4 := Lib.hid (RdP.step Hb.out hb4)
  clear Hb
  have Hb := Hb4
  clear Hb4
  clear hb4
  go_wp2_with fail
  go_ret
  exact ⟨rfl, hbw4⟩
theorem codeBack_bad (a b : List Pt) (A A' : Option Addr) (n n' c c' : Nat) (k : Int) (w : World) (ha : RdP w w.heap.size A n c a) (hb : RdP w w.heap.size A' n' c' b) (h1 : chk a = 0) (h2 : chk b ≠ 0) :
    Calls Try.prog 13 #[.slice A n c, .slice A' n' c', .int .i64 k] w fun e w' => e = .returned (.bool true) ∧ Below w.heap.size w w' := by
  have hbw0 : Below w.heap.size w w := Below.refl _ _
  have hne : (chk b != 0) = true := by simpa using h2
  have H1 := Lib.hid h1
  have H2 := Lib.hid h2
  obtain ⟨S, hS⟩ := wr_ex a
  have hlen := wrL_len h1
  have hsz : S.size ≤ 1000000 := by rw [← bs_len, hS]; exact hlen.1
  have hsp : 0 < S.size := by rw [← bs_len, hS]; exact hlen.2
  have hsi : (S.size : Int) ≤ 1000000 := by omega
  have HS := Lib.hid hS
  have Hrb := Lib.hid (read_back h1)
  have hrm := read_more h1 0
  rw [← hS] at hrm
  have Hrm := Lib.hid hrm
  have Hrc : Hid (∀ k, k < S.size → readE (S.extract 0 k).data.toList = 3) := Lib.hid fun k hk => by
    have e1 : (S.extract 0 k).data.toList = S.data.toList.take k := by rw [bs_extract]; simp
    rw [e1, hS]
    exact read_cut h1 (by rw [← hS, bs_len]; exact hk)
  clear h1 h2 hS hlen hrm
  have Ha := Lib.hid ha
  clear ha
  have Hb := Lib.hid hb
  clear hb
  go_enter Try.func13, Try.ntmps13
  go_wp2_with fail
  have hc := put_any ⟨#[97, 98]⟩ (by decide) w
  refine (hc).mono ?_
  rintro e w1 ⟨Aq, rfl, hrq, hb1⟩
  have hbw1 := hbw0.trans (hb1.mono hbw0.size)
  have Ha1 := Lib.hid (RdP.step Ha.out hb1)
  clear Ha
  have Ha := Ha1
  clear Ha1
  have Hb1 := Lib.hid (RdP.step Hb.out hb1)
  clear Hb
  have Hb := Hb1
  clear Hb1
  clear hb1
  clear hc
  have Hq := Lib.hid hrq
  clear hrq
  go_wp2_with fail
  refine (cwrite_good [(2, 0, ⟨#[97, 98]⟩)] Aq 1 1 _ _ (⟨#[1, 10, 97, 98]⟩) Hq.out (Nat.le_refl _) (by decide) wrL_ab).mono ?_
  rintro e w2 ⟨rfl, hb2⟩
  have hbw2 := hbw1.trans (hb2.mono hbw1.size)
  have Ha2 := Lib.hid (RdP.step Ha.out hb2)
  clear Ha
  have Ha := Ha2
  clear Ha2
  have Hb2 := Lib.hid (RdP.step Hb.out hb2)
  clear Hb
  have Hb := Hb2
  clear Hb2
  have Hq2 := Lib.hid (RdP.step Hq.out hb2)
  clear Hq
  have Hq := Hq2
  clear Hq2
  clear hb2
  go_wp2_with fail
  clear Hq
  refine (cwrite_good a A n c _ _ S Ha.out (Nat.le_refl _) H1.out HS.out).mono ?_
  rintro e w3 ⟨rfl, hb3⟩
  have hbw3 := hbw2.trans (hb3.mono hbw2.size)
  have Ha3 := Lib.hid (RdP.step Ha.out hb3)
  clear Ha
  have Ha := Ha3
  clear Ha3
  have Hb3 := Lib.hid (RdP.step Hb.out hb3)
  clear Hb
  have Hb := Hb3
  clear Hb3
  clear hb3
  go_wp2_with fail
  have hc := cread_rd S w3 (by omega)
  rw [HS.out] at hc
  rw [Hrb.out.1] at hc
  rw [Hrb.out.2] at hc
  refine (hc).mono ?_
  rintro e w4 ⟨Ax, cx, rfl, hrx, hb4⟩
  have hbw4 := hbw3.trans (hb4.mono hbw3.size)
  have Ha4 := Lib.hid (RdP.step Ha.out hb4)
  clear Ha
  have Ha := Ha4
  clear Ha4
  have Hb4 := Lib.hid (RdP.step Hb.out hb4)
  clear Hb
  have Hb := Hb4
  clear Hb4
  clear hb4
  clear hc
  have Hx := Lib.hid hrx
  clear hrx
  go_wp2_with fail
  have hc := within_any k S.size w4 hsp (by omega)
  refine (hc).mono ?_
  rintro e w5 ⟨rfl, rfl⟩
  clear hc
  have hW := wi_lt k S.size hsp
  generalize wi k S.size = W at *
  have hW0 : (0 : Int) ≤ (W : Int) := by omega
  have hWc : (W : Int) ≤ (S.size : Int) := by omega
  have HW := Lib.hid (Hrc.out W hW)
  go_wp2_with fail
  have hes : (S.extract 0 W).size ≤ 140737488351232 := by rw [← bs_len, bs_extract, List.length_drop, List.length_take, bs_len]; omega
  obtain ⟨X, hX⟩ : ∃ X, S.extract 0 W = X := ⟨_, rfl⟩
  rw [hX] at HW hes ⊢
  clear hX
  obtain ⟨LX, hLX⟩ : ∃ L, readL X.data.toList = L := ⟨_, rfl⟩
  have HLX := Lib.hid hLX
  clear hLX
  have hc := cread_rd X w4 hes
  rw [HW.out] at hc
  rw [HLX.out] at hc
  refine (hc).mono ?_
  rintro e w6 ⟨Ay, cy, rfl, hry, hb6⟩
  have hbw6 := hbw4.trans (hb6.mono hbw4.size)
  have Ha6 := Lib.hid (RdP.step Ha.out hb6)
  clear Ha
  have Ha := Ha6
  clear Ha6
  have Hb6 := Lib.hid (RdP.step Hb.out hb6)
  clear Hb
  have Hb := Hb6
  clear Hb6
  have Hx6 := Lib.hid (RdP.step Hx.out hb6)
  clear Hx
  have Hx := Hx6
  clear Hx6
  clear hb6
  clear hc
  have Hy := Lib.hid hry
  clear hry
  go_wp2_with fail
  clear Hy
  obtain ⟨Y, hY⟩ : ∃ Y, S ++ (⟨#[0]⟩ : ByteArray) = Y := ⟨_, rfl⟩
  have hYs : Y.size ≤ 140737488351232 := by rw [← hY, ByteArray.size_append]; show S.size + 1 ≤ _; omega
  have hYe : readE Y.data.toList = 3 := by rw [← hY, bs_append]; exact Hrm.out
  have HY := Lib.hid hY
  have HYe := Lib.hid hYe
  clear hY hYe
  try rw [HY.out]
  obtain ⟨LY, hLY⟩ : ∃ L, readL Y.data.toList = L := ⟨_, rfl⟩
  have HLY := Lib.hid hLY
  clear hLY
  have hc := cread_rd Y w6 hYs
  rw [HYe.out] at hc
  rw [HLY.out] at hc
  refine (hc).mono ?_
  rintro e w7 ⟨Az, cz, rfl, hrz, hb7⟩
  have hbw7 := hbw6.trans (hb7.mono hbw6.size)
  have Ha7 := Lib.hid (RdP.step Ha.out hb7)
  clear Ha
  have Ha := Ha7
  clear Ha7
  have Hb7 := Lib.hid (RdP.step Hb.out hb7)
  clear Hb
  have Hb := Hb7
  clear Hb7
  have Hx7 := Lib.hid (RdP.step Hx.out hb7)
  clear Hx
  have Hx := Hx7
  clear Hx7
  clear hb7
  clear hc
  have Hz := Lib.hid hrz
  clear hrz
  go_wp2_with fail
  clear Hz
  refine (cwrite_err b A' n' c' _ _ Hb.out (Nat.le_refl _) H2.out).mono ?_
  rintro e w8 ⟨rfl, hb8⟩
  have hbw8 := hbw7.trans (hb8.mono hbw7.size)
  have Ha8 := Lib.hid (RdP.step Ha.out hb8)
  clear Ha
  have Ha := Ha8
  clear Ha8
  have Hb8 := Lib.hid (RdP.step Hb.out hb8)
  clear Hb
  have Hb := Hb8
  clear Hb8
  have Hx8 := Lib.hid (RdP.step Hx.out hb8)
  clear Hx
  have Hx := Hx8
  clear Hx8
  clear hb8
  go_wp2_with fail
  refine (same_true a a Ax A _ _ cx c _ _ _ Hx.out Ha.out rfl).mono ?_
  rintro e w9 ⟨rfl, hb9⟩
  have hbw9 := hbw8.trans (hb9.mono hbw8.size)
  have Ha9 := Lib.hid (RdP.step Ha.out hb9)
  clear Ha
  have Ha := Ha9
  clear Ha9
  have Hb9 := Lib.hid (RdP.step Hb.out hb9)
  clear Hb
  have Hb := Hb9
  clear Hb9
  have Hx9 := Lib.hid (RdP.step Hx.out hb9)
  clear Hx
  have Hx := Hx9
  clear Hx9
  clear hb9
  go_wp2_with fail
  go_ret
  exact ⟨rfl, hbw9⟩
theorem codeBack_same (a b : List Pt) (A A' : Option Addr) (n n' c c' : Nat) (k : Int) (w : World) (ha : RdP w w.heap.size A n c a) (hb : RdP w w.heap.size A' n' c' b) (h1 : chk a = 0) (h2 : chk b = 0) (h3 : a = b) :
    Calls Try.prog 13 #[.slice A n c, .slice A' n' c', .int .i64 k] w fun e w' => e = .returned (.bool true) ∧ Below w.heap.size w w' := by
  have hbw0 : Below w.heap.size w w := Below.refl _ _
  have H3 := Lib.hid h3
  clear h3
  have H1 := Lib.hid h1
  have H2 := Lib.hid h2
  obtain ⟨S, hS⟩ := wr_ex a
  have hlen := wrL_len h1
  have hsz : S.size ≤ 1000000 := by rw [← bs_len, hS]; exact hlen.1
  have hsp : 0 < S.size := by rw [← bs_len, hS]; exact hlen.2
  have hsi : (S.size : Int) ≤ 1000000 := by omega
  have HS := Lib.hid hS
  have Hrb := Lib.hid (read_back h1)
  have hrm := read_more h1 0
  rw [← hS] at hrm
  have Hrm := Lib.hid hrm
  have Hrc : Hid (∀ k, k < S.size → readE (S.extract 0 k).data.toList = 3) := Lib.hid fun k hk => by
    have e1 : (S.extract 0 k).data.toList = S.data.toList.take k := by rw [bs_extract]; simp
    rw [e1, hS]
    exact read_cut h1 (by rw [← hS, bs_len]; exact hk)
  clear h1 h2 hS hlen hrm
  have Ha := Lib.hid ha
  clear ha
  have Hb := Lib.hid hb
  clear hb
  go_enter Try.func13, Try.ntmps13
  go_wp2_with fail
  have hc := put_any ⟨#[97, 98]⟩ (by decide) w
  refine (hc).mono ?_
  rintro e w1 ⟨Aq, rfl, hrq, hb1⟩
  have hbw1 := hbw0.trans (hb1.mono hbw0.size)
  have Ha1 := Lib.hid (RdP.step Ha.out hb1)
  clear Ha
  have Ha := Ha1
  clear Ha1
  have Hb1 := Lib.hid (RdP.step Hb.out hb1)
  clear Hb
  have Hb := Hb1
  clear Hb1
  clear hb1
  clear hc
  have Hq := Lib.hid hrq
  clear hrq
  go_wp2_with fail
  refine (cwrite_good [(2, 0, ⟨#[97, 98]⟩)] Aq 1 1 _ _ (⟨#[1, 10, 97, 98]⟩) Hq.out (Nat.le_refl _) (by decide) wrL_ab).mono ?_
  rintro e w2 ⟨rfl, hb2⟩
  have hbw2 := hbw1.trans (hb2.mono hbw1.size)
  have Ha2 := Lib.hid (RdP.step Ha.out hb2)
  clear Ha
  have Ha := Ha2
  clear Ha2
  have Hb2 := Lib.hid (RdP.step Hb.out hb2)
  clear Hb
  have Hb := Hb2
  clear Hb2
  have Hq2 := Lib.hid (RdP.step Hq.out hb2)
  clear Hq
  have Hq := Hq2
  clear Hq2
  clear hb2
  go_wp2_with fail
  clear Hq
  refine (cwrite_good a A n c _ _ S Ha.out (Nat.le_refl _) H1.out HS.out).mono ?_
  rintro e w3 ⟨rfl, hb3⟩
  have hbw3 := hbw2.trans (hb3.mono hbw2.size)
  have Ha3 := Lib.hid (RdP.step Ha.out hb3)
  clear Ha
  have Ha := Ha3
  clear Ha3
  have Hb3 := Lib.hid (RdP.step Hb.out hb3)
  clear Hb
  have Hb := Hb3
  clear Hb3
  clear hb3
  go_wp2_with fail
  have hc := cread_rd S w3 (by omega)
  rw [HS.out] at hc
  rw [Hrb.out.1] at hc
  rw [Hrb.out.2] at hc
  refine (hc).mono ?_
  rintro e w4 ⟨Ax, cx, rfl, hrx, hb4⟩
  have hbw4 := hbw3.trans (hb4.mono hbw3.size)
  have Ha4 := Lib.hid (RdP.step Ha.out hb4)
  clear Ha
  have Ha := Ha4
  clear Ha4
  have Hb4 := Lib.hid (RdP.step Hb.out hb4)
  clear Hb
  have Hb := Hb4
  clear Hb4
  clear hb4
  clear hc
  have Hx := Lib.hid hrx
  clear hrx
  go_wp2_with fail
  have hc := within_any k S.size w4 hsp (by omega)
  refine (hc).mono ?_
  rintro e w5 ⟨rfl, rfl⟩
  clear hc
  have hW := wi_lt k S.size hsp
  generalize wi k S.size = W at *
  have hW0 : (0 : Int) ≤ (W : Int) := by omega
  have hWc : (W : Int) ≤ (S.size : Int) := by omega
  have HW := Lib.hid (Hrc.out W hW)
  go_wp2_with fail
  have hes : (S.extract 0 W).size ≤ 140737488351232 := by rw [← bs_len, bs_extract, List.length_drop, List.length_take, bs_len]; omega
  obtain ⟨X, hX⟩ : ∃ X, S.extract 0 W = X := ⟨_, rfl⟩
  rw [hX] at HW hes ⊢
  clear hX
  obtain ⟨LX, hLX⟩ : ∃ L, readL X.data.toList = L := ⟨_, rfl⟩
  have HLX := Lib.hid hLX
  clear hLX
  have hc := cread_rd X w4 hes
  rw [HW.out] at hc
  rw [HLX.out] at hc
  refine (hc).mono ?_
  rintro e w6 ⟨Ay, cy, rfl, hry, hb6⟩
  have hbw6 := hbw4.trans (hb6.mono hbw4.size)
  have Ha6 := Lib.hid (RdP.step Ha.out hb6)
  clear Ha
  have Ha := Ha6
  clear Ha6
  have Hb6 := Lib.hid (RdP.step Hb.out hb6)
  clear Hb
  have Hb := Hb6
  clear Hb6
  have Hx6 := Lib.hid (RdP.step Hx.out hb6)
  clear Hx
  have Hx := Hx6
  clear Hx6
  clear hb6
  clear hc
  have Hy := Lib.hid hry
  clear hry
  go_wp2_with fail
  clear Hy
  obtain ⟨Y, hY⟩ : ∃ Y, S ++ (⟨#[0]⟩ : ByteArray) = Y := ⟨_, rfl⟩
  have hYs : Y.size ≤ 140737488351232 := by rw [← hY, ByteArray.size_append]; show S.size + 1 ≤ _; omega
  have hYe : readE Y.data.toList = 3 := by rw [← hY, bs_append]; exact Hrm.out
  have HY := Lib.hid hY
  have HYe := Lib.hid hYe
  clear hY hYe
  try rw [HY.out]
  obtain ⟨LY, hLY⟩ : ∃ L, readL Y.data.toList = L := ⟨_, rfl⟩
  have HLY := Lib.hid hLY
  clear hLY
  have hc := cread_rd Y w6 hYs
  rw [HYe.out] at hc
  rw [HLY.out] at hc
  refine (hc).mono ?_
  rintro e w7 ⟨Az, cz, rfl, hrz, hb7⟩
  have hbw7 := hbw6.trans (hb7.mono hbw6.size)
  have Ha7 := Lib.hid (RdP.step Ha.out hb7)
  clear Ha
  have Ha := Ha7
  clear Ha7
  have Hb7 := Lib.hid (RdP.step Hb.out hb7)
  clear Hb
  have Hb := Hb7
  clear Hb7
  have Hx7 := Lib.hid (RdP.step Hx.out hb7)
  clear Hx
  have Hx := Hx7
  clear Hx7
  clear hb7
  clear hc
  have Hz := Lib.hid hrz
  clear hrz
  go_wp2_with fail
  clear Hz
  refine (cwrite_good b A' n' c' _ _ S Hb.out (Nat.le_refl _) H2.out (by rw [HS.out, H3.out])).mono ?_
  rintro e w8 ⟨rfl, hb8⟩
  have hbw8 := hbw7.trans (hb8.mono hbw7.size)
  have Ha8 := Lib.hid (RdP.step Ha.out hb8)
  clear Ha
  have Ha := Ha8
  clear Ha8
  have Hb8 := Lib.hid (RdP.step Hb.out hb8)
  clear Hb
  have Hb := Hb8
  clear Hb8
  have Hx8 := Lib.hid (RdP.step Hx.out hb8)
  clear Hx
  have Hx := Hx8
  clear Hx8
  clear hb8
  go_wp2_with fail
  refine (same_true a a Ax A _ _ cx c _ _ _ Hx.out Ha.out rfl).mono ?_
  rintro e w9 ⟨rfl, hb9⟩
  have hbw9 := hbw8.trans (hb9.mono hbw8.size)
  have Ha9 := Lib.hid (RdP.step Ha.out hb9)
  clear Ha
  have Ha := Ha9
  clear Ha9
  have Hb9 := Lib.hid (RdP.step Hb.out hb9)
  clear Hb
  have Hb := Hb9
  clear Hb9
  have Hx9 := Lib.hid (RdP.step Hx.out hb9)
  clear Hx
  have Hx := Hx9
  clear Hx9
  clear hb9
  go_wp2_with fail
  have hc := same_any a b A A' n n' c c' _ _ _ Ha.out Hb.out
  rw [decide_eq_true H3.out] at hc
  refine (hc).mono ?_
  rintro e w10 ⟨rfl, hb10⟩
  have hbw10 := hbw9.trans (hb10.mono hbw9.size)
  have Ha10 := Lib.hid (RdP.step Ha.out hb10)
  clear Ha
  have Ha := Ha10
  clear Ha10
  have Hb10 := Lib.hid (RdP.step Hb.out hb10)
  clear Hb
  have Hb := Hb10
  clear Hb10
  have Hx10 := Lib.hid (RdP.step Hx.out hb10)
  clear Hx
  have Hx := Hx10
  clear Hx10
  clear hb10
  clear hc
  go_wp2_with fail
  go_ret
  exact ⟨rfl, hbw10⟩
theorem codeBack_diff (a b : List Pt) (A A' : Option Addr) (n n' c c' : Nat) (k : Int) (w : World) (ha : RdP w w.heap.size A n c a) (hb : RdP w w.heap.size A' n' c' b) (h1 : chk a = 0) (h2 : chk b = 0) (h3 : a ≠ b) :
    Calls Try.prog 13 #[.slice A n c, .slice A' n' c', .int .i64 k] w fun e w' => e = .returned (.bool true) ∧ Below w.heap.size w w' := by
  have hbw0 : Below w.heap.size w w := Below.refl _ _
  have H3 := Lib.hid h3
  clear h3
  have H1 := Lib.hid h1
  have H2 := Lib.hid h2
  obtain ⟨S, hS⟩ := wr_ex a
  have hlen := wrL_len h1
  have hsz : S.size ≤ 1000000 := by rw [← bs_len, hS]; exact hlen.1
  have hsp : 0 < S.size := by rw [← bs_len, hS]; exact hlen.2
  have hsi : (S.size : Int) ≤ 1000000 := by omega
  have HS := Lib.hid hS
  have Hrb := Lib.hid (read_back h1)
  have hrm := read_more h1 0
  rw [← hS] at hrm
  have Hrm := Lib.hid hrm
  have Hrc : Hid (∀ k, k < S.size → readE (S.extract 0 k).data.toList = 3) := Lib.hid fun k hk => by
    have e1 : (S.extract 0 k).data.toList = S.data.toList.take k := by rw [bs_extract]; simp
    rw [e1, hS]
    exact read_cut h1 (by rw [← hS, bs_len]; exact hk)
  clear h1 h2 hS hlen hrm
  have Ha := Lib.hid ha
  clear ha
  have Hb := Lib.hid hb
  clear hb
  go_enter Try.func13, Try.ntmps13
  go_wp2_with fail
  have hc := put_any ⟨#[97, 98]⟩ (by decide) w
  refine (hc).mono ?_
  rintro e w1 ⟨Aq, rfl, hrq, hb1⟩
  have hbw1 := hbw0.trans (hb1.mono hbw0.size)
  have Ha1 := Lib.hid (RdP.step Ha.out hb1)
  clear Ha
  have Ha := Ha1
  clear Ha1
  have Hb1 := Lib.hid (RdP.step Hb.out hb1)
  clear Hb
  have Hb := Hb1
  clear Hb1
  clear hb1
  clear hc
  have Hq := Lib.hid hrq
  clear hrq
  go_wp2_with fail
  refine (cwrite_good [(2, 0, ⟨#[97, 98]⟩)] Aq 1 1 _ _ (⟨#[1, 10, 97, 98]⟩) Hq.out (Nat.le_refl _) (by decide) wrL_ab).mono ?_
  rintro e w2 ⟨rfl, hb2⟩
  have hbw2 := hbw1.trans (hb2.mono hbw1.size)
  have Ha2 := Lib.hid (RdP.step Ha.out hb2)
  clear Ha
  have Ha := Ha2
  clear Ha2
  have Hb2 := Lib.hid (RdP.step Hb.out hb2)
  clear Hb
  have Hb := Hb2
  clear Hb2
  have Hq2 := Lib.hid (RdP.step Hq.out hb2)
  clear Hq
  have Hq := Hq2
  clear Hq2
  clear hb2
  go_wp2_with fail
  clear Hq
  refine (cwrite_good a A n c _ _ S Ha.out (Nat.le_refl _) H1.out HS.out).mono ?_
  rintro e w3 ⟨rfl, hb3⟩
  have hbw3 := hbw2.trans (hb3.mono hbw2.size)
  have Ha3 := Lib.hid (RdP.step Ha.out hb3)
  clear Ha
  have Ha := Ha3
  clear Ha3
  have Hb3 := Lib.hid (RdP.step Hb.out hb3)
  clear Hb
  have Hb := Hb3
  clear Hb3
  clear hb3
  go_wp2_with fail
  have hc := cread_rd S w3 (by omega)
  rw [HS.out] at hc
  rw [Hrb.out.1] at hc
  rw [Hrb.out.2] at hc
  refine (hc).mono ?_
  rintro e w4 ⟨Ax, cx, rfl, hrx, hb4⟩
  have hbw4 := hbw3.trans (hb4.mono hbw3.size)
  have Ha4 := Lib.hid (RdP.step Ha.out hb4)
  clear Ha
  have Ha := Ha4
  clear Ha4
  have Hb4 := Lib.hid (RdP.step Hb.out hb4)
  clear Hb
  have Hb := Hb4
  clear Hb4
  clear hb4
  clear hc
  have Hx := Lib.hid hrx
  clear hrx
  go_wp2_with fail
  have hc := within_any k S.size w4 hsp (by omega)
  refine (hc).mono ?_
  rintro e w5 ⟨rfl, rfl⟩
  clear hc
  have hW := wi_lt k S.size hsp
  generalize wi k S.size = W at *
  have hW0 : (0 : Int) ≤ (W : Int) := by omega
  have hWc : (W : Int) ≤ (S.size : Int) := by omega
  have HW := Lib.hid (Hrc.out W hW)
  go_wp2_with fail
  have hes : (S.extract 0 W).size ≤ 140737488351232 := by rw [← bs_len, bs_extract, List.length_drop, List.length_take, bs_len]; omega
  obtain ⟨X, hX⟩ : ∃ X, S.extract 0 W = X := ⟨_, rfl⟩
  rw [hX] at HW hes ⊢
  clear hX
  obtain ⟨LX, hLX⟩ : ∃ L, readL X.data.toList = L := ⟨_, rfl⟩
  have HLX := Lib.hid hLX
  clear hLX
  have hc := cread_rd X w4 hes
  rw [HW.out] at hc
  rw [HLX.out] at hc
  refine (hc).mono ?_
  rintro e w6 ⟨Ay, cy, rfl, hry, hb6⟩
  have hbw6 := hbw4.trans (hb6.mono hbw4.size)
  have Ha6 := Lib.hid (RdP.step Ha.out hb6)
  clear Ha
  have Ha := Ha6
  clear Ha6
  have Hb6 := Lib.hid (RdP.step Hb.out hb6)
  clear Hb
  have Hb := Hb6
  clear Hb6
  have Hx6 := Lib.hid (RdP.step Hx.out hb6)
  clear Hx
  have Hx := Hx6
  clear Hx6
  clear hb6
  clear hc
  have Hy := Lib.hid hry
  clear hry
  go_wp2_with fail
  clear Hy
  obtain ⟨Y, hY⟩ : ∃ Y, S ++ (⟨#[0]⟩ : ByteArray) = Y := ⟨_, rfl⟩
  have hYs : Y.size ≤ 140737488351232 := by rw [← hY, ByteArray.size_append]; show S.size + 1 ≤ _; omega
  have hYe : readE Y.data.toList = 3 := by rw [← hY, bs_append]; exact Hrm.out
  have HY := Lib.hid hY
  have HYe := Lib.hid hYe
  clear hY hYe
  try rw [HY.out]
  obtain ⟨LY, hLY⟩ : ∃ L, readL Y.data.toList = L := ⟨_, rfl⟩
  have HLY := Lib.hid hLY
  clear hLY
  have hc := cread_rd Y w6 hYs
  rw [HYe.out] at hc
  rw [HLY.out] at hc
  refine (hc).mono ?_
  rintro e w7 ⟨Az, cz, rfl, hrz, hb7⟩
  have hbw7 := hbw6.trans (hb7.mono hbw6.size)
  have Ha7 := Lib.hid (RdP.step Ha.out hb7)
  clear Ha
  have Ha := Ha7
  clear Ha7
  have Hb7 := Lib.hid (RdP.step Hb.out hb7)
  clear Hb
  have Hb := Hb7
  clear Hb7
  have Hx7 := Lib.hid (RdP.step Hx.out hb7)
  clear Hx
  have Hx := Hx7
  clear Hx7
  clear hb7
  clear hc
  have Hz := Lib.hid hrz
  clear hrz
  go_wp2_with fail
  clear Hz
  obtain ⟨T, hT⟩ := wr_ex b
  have HT := Lib.hid hT
  have hST : S ≠ T := fun h => H3.out (wrL_inj H1.out H2.out (by rw [← HS.out, ← HT.out, h]))
  have hSTb : (S.toList == T.toList) = false := by
    rw [beq_eq_false_iff_ne, ByteArray.toList_eq, ByteArray.toList_eq]
    exact fun h => hST (bs_ext h)
  clear hT
  refine (cwrite_good b A' n' c' _ _ T Hb.out (Nat.le_refl _) H2.out HT.out).mono ?_
  rintro e w8 ⟨rfl, hb8⟩
  have hbw8 := hbw7.trans (hb8.mono hbw7.size)
  have Ha8 := Lib.hid (RdP.step Ha.out hb8)
  clear Ha
  have Ha := Ha8
  clear Ha8
  have Hb8 := Lib.hid (RdP.step Hb.out hb8)
  clear Hb
  have Hb := Hb8
  clear Hb8
  have Hx8 := Lib.hid (RdP.step Hx.out hb8)
  clear Hx
  have Hx := Hx8
  clear Hx8
  clear hb8
  go_wp2_with fail
  refine (same_true a a Ax A _ _ cx c _ _ _ Hx.out Ha.out rfl).mono ?_
  rintro e w9 ⟨rfl, hb9⟩
  have hbw9 := hbw8.trans (hb9.mono hbw8.size)
  have Ha9 := Lib.hid (RdP.step Ha.out hb9)
  clear Ha
  have Ha := Ha9
  clear Ha9
  have Hb9 := Lib.hid (RdP.step Hb.out hb9)
  clear Hb
  have Hb := Hb9
  clear Hb9
  have Hx9 := Lib.hid (RdP.step Hx.out hb9)
  clear Hx
  have Hx := Hx9
  clear Hx9
  clear hb9
  go_wp2_with fail
  have hc := same_any a b A A' n n' c c' _ _ _ Ha.out Hb.out
  rw [decide_eq_false H3.out] at hc
  refine (hc).mono ?_
  rintro e w10 ⟨rfl, hb10⟩
  have hbw10 := hbw9.trans (hb10.mono hbw9.size)
  have Ha10 := Lib.hid (RdP.step Ha.out hb10)
  clear Ha
  have Ha := Ha10
  clear Ha10
  have Hb10 := Lib.hid (RdP.step Hb.out hb10)
  clear Hb
  have Hb := Hb10
  clear Hb10
  have Hx10 := Lib.hid (RdP.step Hx.out hb10)
  clear Hx
  have Hx := Hx10
  clear Hx10
  clear hb10
  clear hc
  go_wp2_with fail
  go_ret
  exact ⟨rfl, hbw10⟩
theorem walk_CodeBack (v : Value) (a : List Pt) (v' : Value) (b : List Pt) (k : Int) (wk : (Lit.int .i64 k).wf = true) (w : World) (ha : IsParts w v a) (hb : IsParts w v' b) :
    Calls Try.prog 13 #[v, v', .int .i64 k] w fun e w' => e = .returned (.bool true) ∧ Below w.heap.size w w' := by
  obtain ⟨A, n, c, rfl, ha⟩ := ha
  obtain ⟨A', n', c', rfl, hb⟩ := hb
  by_cases h1 : chk a = 0
  · by_cases h2 : chk b = 0
    · by_cases h3 : a = b
      · exact codeBack_same a b A A' n n' c c' k w ha hb h1 h2 h3
      · exact codeBack_diff a b A A' n n' c c' k w ha hb h1 h2 h3
    · exact codeBack_bad a b A A' n n' c c' k w ha hb h1 h2
  · exact codeBack_err a b A A' n n' c c' k w ha hb h1
end Go.Proofs.Ytbgaoehpljnolaa
