/- SpotOrders: the walk. Places stay in order. -/
import Derived.Test.YtbgaoehpljnolaaSpot
import Derived.Test.YtbgaoehpljnolaaOpenParts
import Derived.Test.YtbgaoehpljnolaaWithin
import Derived.Test.YtbgaoehpljnolaaDeltaLaw
namespace Go.Proofs.Ytbgaoehpljnolaa
open Go.ChangeShapes Go.WideShapes Go.RowKit
set_option linter.unusedVariables false
set_option linter.unusedSimpArgs false
set_option maxRecDepth 100000
set_option maxHeartbeats 4000000


theorem spotOrders_err (l : List Pt) (A : Option Addr) (n c : Nat) (i k : Int) (w : World) (h : RdP w w.heap.size A n c l) (hk : chk l ≠ 0) :
    Calls Try.prog 7 #[.slice A n c, .int .i64 i, .int .i64 k] w fun e w' => e = .returned (.bool true) ∧ Below w.heap.size w w' := by
  have hbw0 : Below w.heap.size w w := Below.refl _ _
  have Hl := Lib.hid h
  clear h
  have hne : ((chk l) != 0) = true := by simpa using hk
  have Hk := Lib.hid hk
  clear hk
  go_enter Try.func7, Try.ntmps7
  go_wp2_with fail
  refine (put_any ⟨#[97, 98]⟩ (by decide) _).mono ?_
  rintro e w1 ⟨Ap, rfl, hp, hb1⟩
  have hbw1 := hbw0.trans (hb1.mono hbw0.size)
  have Hl1 := Lib.hid (RdP.step Hl.out hb1)
  clear Hl
  have Hl := Hl1
  clear Hl1
  clear hb1
  have Hp := Lib.hid hp
  clear hp
  go_wp2_with fail
  have hc := spot_any [(2, 0, ⟨#[97, 98]⟩)] Ap 1 1 _ 0 true _ Hp.out (Nat.le_refl _) (by decide) (by decide)
  rw [show sp true (units [(2, 0, ⟨#[97, 98]⟩)]) 0 = 2 from by decide] at hc
  refine (hc).mono ?_
  rintro e w2 ⟨rfl, hb2⟩
  have hbw2 := hbw1.trans (hb2.mono hbw1.size)
  have Hl2 := Lib.hid (RdP.step Hl.out hb2)
  clear Hl
  have Hl := Hl2
  clear Hl2
  have Hp2 := Lib.hid (RdP.step Hp.out hb2)
  clear Hp
  have Hp := Hp2
  clear Hp2
  clear hb2
  clear hc
  clear Hp
  go_wp2_with fail
  refine (psizes_err l A n c _ _ Hl.out (Nat.le_refl _) Hk.out).mono ?_
  rintro e w3 ⟨rfl, hb3⟩
  have hbw3 := hbw2.trans (hb3.mono hbw2.size)
  have Hl3 := Lib.hid (RdP.step Hl.out hb3)
  clear Hl
  have Hl := Hl3
  clear Hl3
  clear hb3
  go_wp2_with fail
  go_ret
  exact ⟨rfl, hbw3⟩
theorem spotOrders_good (l : List Pt) (A : Option Addr) (n c : Nat) (i k : Int) (w : World) (h : RdP w w.heap.size A n c l) (hk : chk l = 0) :
    Calls Try.prog 7 #[.slice A n c, .int .i64 i, .int .i64 k] w fun e w' => e = .returned (.bool true) ∧ Below w.heap.size w w' := by
  have hbw0 : Below w.heap.size w w := Below.refl _ _
  have Hl := Lib.hid h
  clear h
  have Hk := Lib.hid hk
  clear hk
  go_enter Try.func7, Try.ntmps7
  go_wp2_with fail
  refine (put_any ⟨#[97, 98]⟩ (by decide) _).mono ?_
  rintro e w1 ⟨Ap, rfl, hp, hb1⟩
  have hbw1 := hbw0.trans (hb1.mono hbw0.size)
  have Hl1 := Lib.hid (RdP.step Hl.out hb1)
  clear Hl
  have Hl := Hl1
  clear Hl1
  clear hb1
  have Hp := Lib.hid hp
  clear hp
  go_wp2_with fail
  have hc := spot_any [(2, 0, ⟨#[97, 98]⟩)] Ap 1 1 _ 0 true _ Hp.out (Nat.le_refl _) (by decide) (by decide)
  rw [show sp true (units [(2, 0, ⟨#[97, 98]⟩)]) 0 = 2 from by decide] at hc
  refine (hc).mono ?_
  rintro e w2 ⟨rfl, hb2⟩
  have hbw2 := hbw1.trans (hb2.mono hbw1.size)
  have Hl2 := Lib.hid (RdP.step Hl.out hb2)
  clear Hl
  have Hl := Hl2
  clear Hl2
  have Hp2 := Lib.hid (RdP.step Hp.out hb2)
  clear Hp
  have Hp := Hp2
  clear Hp2
  clear hb2
  clear hc
  clear Hp
  go_wp2_with fail
  refine (psizes_good l A n c _ _ Hl.out (Nat.le_refl _) Hk.out).mono ?_
  rintro e w3 ⟨rfl, hb3⟩
  have hbw3 := hbw2.trans (hb3.mono hbw2.size)
  have Hl3 := Lib.hid (RdP.step Hl.out hb3)
  clear Hl
  have Hl := Hl3
  clear Hl3
  clear hb3
  have hN5 := (chk_parts Hk.out).2.2.2.1
  have hM5 := (chk_parts Hk.out).2.2.2.2.1
  obtain ⟨N, hN⟩ : ∃ N, nI (units l) = N := ⟨_, rfl⟩
  obtain ⟨M, hM⟩ : ∃ M, nO (units l) = M := ⟨_, rfl⟩
  rw [hN] at hN5 ⊢
  rw [hM] at hM5 ⊢
  have HN := Lib.hid hN
  have HM := Lib.hid hM
  clear hN hM
  have hcast : ((N + 1 : Nat) : Int) = (N : Int) + 1 := by omega
  have Hcast := Lib.hid hcast
  clear hcast
  go_wp2_with fail
  have hc := within_any i (N + 1) w3 (by omega) (by omega)
  rw [Hcast.out] at hc
  refine (hc).mono ?_
  rintro e w4 ⟨rfl, rfl⟩
  clear hc
  have hI := wi_lt i (N + 1) (by omega)
  generalize wi i (N + 1) = I at *
  go_wp2_with fail
  have hc := within_any k (N + 1) w3 (by omega) (by omega)
  rw [Hcast.out] at hc
  refine (hc).mono ?_
  rintro e w5 ⟨rfl, rfl⟩
  clear hc
  have hK := wi_lt k (N + 1) (by omega)
  generalize wi k (N + 1) = K at *
  obtain ⟨P, hP⟩ : ∃ P, min I K = P := ⟨_, rfl⟩
  obtain ⟨Q, hQ⟩ : ∃ Q, max I K = Q := ⟨_, rfl⟩
  have hPQ : P ≤ Q := by omega
  have hQN : Q ≤ N := by omega
  have hPi : min (I : Int) (K : Int) = (P : Int) := by omega
  have hQi : max (I : Int) (K : Int) = (Q : Int) := by omega
  have HP := Lib.hid hPi
  have HQ := Lib.hid hQi
  clear hP hQ hPi hQi hI hK
  go_wp2_with (first | (refine wpList_min2 rfl (.tmp 52) (.tmp 53) _ rfl _ _ _ rfl rfl HP.out ?_) | (refine wpList_max2 rfl (.tmp 55) (.tmp 56) _ rfl _ _ _ rfl rfl HQ.out ?_))
  have hab : sp false (units l) P ≤ sp true (units l) P := sp_early _ _
  have hxy : sp false (units l) Q ≤ sp true (units l) Q := sp_early _ _
  have hax : sp false (units l) P ≤ sp false (units l) Q := sp_mono _ _ _ _ hPQ
  have hby : sp true (units l) P ≤ sp true (units l) Q := sp_mono _ _ _ _ hPQ
  have hbx : P < Q → sp true (units l) P ≤ sp false (units l) Q := fun h => sp_lt _ _ _ h
  have Hab := Lib.hid hab
  have Hxy := Lib.hid hxy
  have Hax := Lib.hid hax
  have Hby := Lib.hid hby
  have Hbx := Lib.hid hbx
  have Hle := Lib.hid (⟨hPQ, hQN⟩ : P ≤ Q ∧ Q ≤ N)
  clear hab hxy hax hby hbx hPQ hQN
  have hc := spot_any l A n c _ P false _ Hl.out (Nat.le_refl _) Hk.out (by rw [HN.out]; have := Hle.out; omega)
  refine (hc).mono ?_
  rintro e w6 ⟨rfl, hb6⟩
  have hbw6 := hbw3.trans (hb6.mono hbw3.size)
  have Hl6 := Lib.hid (RdP.step Hl.out hb6)
  clear Hl
  have Hl := Hl6
  clear Hl6
  clear hb6
  clear hc
  go_wp2_with fail
  have hc := spot_any l A n c _ P true _ Hl.out (Nat.le_refl _) Hk.out (by rw [HN.out]; have := Hle.out; omega)
  refine (hc).mono ?_
  rintro e w7 ⟨rfl, hb7⟩
  have hbw7 := hbw6.trans (hb7.mono hbw6.size)
  have Hl7 := Lib.hid (RdP.step Hl.out hb7)
  clear Hl
  have Hl := Hl7
  clear Hl7
  clear hb7
  clear hc
  go_wp2_with fail
  have hc := spot_any l A n c _ Q false _ Hl.out (Nat.le_refl _) Hk.out (by rw [HN.out]; have := Hle.out; omega)
  refine (hc).mono ?_
  rintro e w8 ⟨rfl, hb8⟩
  have hbw8 := hbw7.trans (hb8.mono hbw7.size)
  have Hl8 := Lib.hid (RdP.step Hl.out hb8)
  clear Hl
  have Hl := Hl8
  clear Hl8
  clear hb8
  clear hc
  go_wp2_with fail
  have hc := spot_any l A n c _ Q true _ Hl.out (Nat.le_refl _) Hk.out (by rw [HN.out]; have := Hle.out; omega)
  refine (hc).mono ?_
  rintro e w9 ⟨rfl, hb9⟩
  have hbw9 := hbw8.trans (hb9.mono hbw8.size)
  have Hl9 := Lib.hid (RdP.step Hl.out hb9)
  clear Hl
  have Hl := Hl9
  clear Hl9
  clear hb9
  clear hc
  go_wp2_with fail
  have hc := spot_any l A n c _ 0 false _ Hl.out (Nat.le_refl _) Hk.out (by rw [HN.out]; have := Hle.out; omega)
  rw [sp_zero] at hc
  refine (hc).mono ?_
  rintro e w10 ⟨rfl, hb10⟩
  have hbw10 := hbw9.trans (hb10.mono hbw9.size)
  have Hl10 := Lib.hid (RdP.step Hl.out hb10)
  clear Hl
  have Hl := Hl10
  clear Hl10
  clear hb10
  clear hc
  go_wp2_with fail
  have hc := spot_any l A n c _ N true _ Hl.out (Nat.le_refl _) Hk.out (by rw [HN.out]; have := Hle.out; omega)
  rw [show sp true (units l) N = M from by rw [← HN.out, ← HM.out]; exact sp_end _] at hc
  refine (hc).mono ?_
  rintro e w11 ⟨rfl, hb11⟩
  have hbw11 := hbw10.trans (hb11.mono hbw10.size)
  have Hl11 := Lib.hid (RdP.step Hl.out hb11)
  clear Hl
  have Hl := Hl11
  clear Hl11
  clear hb11
  clear hc
  generalize sp false (units l) P = a at *
  generalize sp true (units l) P = b at *
  generalize sp false (units l) Q = x at *
  generalize sp true (units l) Q = y at *
  have hab := Hab.out
  have hxy := Hxy.out
  have hax := Hax.out
  have hby := Hby.out
  have hbx := Hbx.out
  by_cases hpq : P = Q
  · subst hpq
    go_wp2_with fail
    go_ret
    exact ⟨rfl, hbw11⟩
  · have hbx2 : b ≤ x := hbx (by have := Hle.out; omega)
    have hne : (P == Q) = false := by simpa using hpq
    clear hbx
    go_wp2_with fail
    go_ret
    exact ⟨rfl, hbw11⟩
theorem walk_SpotOrders (v : Value) (l : List Pt) (i : Int) (wi : (Lit.int .i64 i).wf = true) (k : Int) (wk : (Lit.int .i64 k).wf = true) (w : World) (hx : IsParts w v l) :
    Calls Try.prog 7 #[v, .int .i64 i, .int .i64 k] w fun e w' => e = .returned (.bool true) ∧ Below w.heap.size w w' := by
  obtain ⟨A, n, c, rfl, h⟩ := hx
  by_cases hk : chk l = 0
  · exact spotOrders_good l A n c i k w h hk
  · exact spotOrders_err l A n c i k w h hk
end Go.Proofs.Ytbgaoehpljnolaa
