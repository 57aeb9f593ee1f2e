/- CompEdges: the walk. Edges of compositions. -/
import Derived.Test.YtgocddkoancdiaaComp
import Derived.Test.YtgocddkoancdiaaEdgeLaw
import Derived.Test.YtgocddkoancdiaaSame
import Derived.Test.YtgocddkoancdiaaWithin
import Derived.Test.YtgocddkoancdiaaOpenParts
namespace Go.Proofs.Ytgocddkoancdiaa
open Go.ChangeShapes Go.WideShapes Go.RowKit
set_option linter.unusedVariables false
set_option linter.unusedSimpArgs false
set_option maxRecDepth 100000
set_option maxHeartbeats 4000000


theorem compEdges_none (s t : ByteArray) (n : Int) (hs : s.size ≤ 140737488351232) (ht : t.size ≤ 140737488351232) (w : World) (h1 : s = ⟨#[]⟩) :
    Calls Try.prog 5 #[.string s, .string t, .int .i64 n] w fun e w' => e = .returned (.bool true) ∧ Below w.heap.size w w' := by
  have hbw0 : Below w.heap.size w w := Below.refl _ _
  subst h1
  have hnil := (⟨rfl, Rd.nil _ _ _, by simp⟩ : RdP w w.heap.size none 0 0 [])
  have Hz := Lib.hid hnil
  clear hnil
  go_enter Try.func5, Try.ntmps5
  go_wp2_with fail
  have hc := comp_rd [] [] none none 0 0 0 0 _ Hz.out Hz.out
  rw [show compE [] [] = 0 from by decide] at hc
  rw [show compL [] [] = [] from by decide] at hc
  refine (hc).mono ?_
  rintro e w1 ⟨Ac0, cc0, rfl, hrc0, hb1⟩
  have hbw1 := hbw0.trans (hb1.mono hbw0.size)
  have Hz1 := Lib.hid (RdP.step Hz.out hb1)
  clear Hz
  have Hz := Hz1
  clear Hz1
  clear hb1
  clear hc
  have Hc0 := Lib.hid hrc0
  clear hrc0
  clear Hz
  clear Hc0
  go_wp2_with fail
  have hrp := RdP.builtS w1 #[.int .i64 3, .int .i64 2, .string ⟨#[]⟩] [(3, 2, emp)] 1 rfl rfl (by decide) (by decide)
  have hbw2 := hbw1.alloc hbw1.size (.cells #[.int .i64 3, .int .i64 2, .string ⟨#[]⟩] 28)
  have Hp := Lib.hid hrp
  clear hrp
  have hc := put_any ⟨#[97]⟩ (by decide) (w1.alloc (.cells #[.int .i64 3, .int .i64 2, .string ⟨#[]⟩] 28))
  refine (hc).mono ?_
  rintro e w3 ⟨Aq, rfl, hrq, hb3⟩
  have hbw3 := hbw2.trans (hb3.mono hbw2.size)
  have Hp3 := Lib.hid (RdP.step Hp.out hb3)
  clear Hp
  have Hp := Hp3
  clear Hp3
  clear hb3
  clear hc
  have Hq := Lib.hid hrq
  clear hrq
  go_wp2_with fail
  have hc := comp_rd [(3, 2, emp)] [(2, 0, ⟨#[97]⟩)] (some ⟨w1.heap.size, 0, none⟩) Aq 1 1 1 1 _ Hp.out Hq.out
  rw [show compE [(3, 2, emp)] [(2, 0, ⟨#[97]⟩)] = 0 from by decide] at hc
  rw [show compL [(3, 2, emp)] [(2, 0, ⟨#[97]⟩)] = [(2, 0, ⟨#[97]⟩), (3, 2, emp)] from by decide] at hc
  refine (hc).mono ?_
  rintro e w4 ⟨Ar, cr, rfl, hrr, hb4⟩
  have hbw4 := hbw3.trans (hb4.mono hbw3.size)
  have Hp4 := Lib.hid (RdP.step Hp.out hb4)
  clear Hp
  have Hp := Hp4
  clear Hp4
  have Hq4 := Lib.hid (RdP.step Hq.out hb4)
  clear Hq
  have Hq := Hq4
  clear Hq4
  clear hb4
  clear hc
  have Hr := Lib.hid hrr
  clear hrr
  go_wp2_with fail
  clear Hp
  clear Hq
  have hrs2 := RdP.builtS w4 #[.int .i64 2, .int .i64 0, .string ⟨#[97]⟩, .int .i64 3, .int .i64 2, .string ⟨#[]⟩] [(2, 0, ⟨#[97]⟩), (3, 2, emp)] 2 rfl rfl (by decide) (by decide)
  have hbw5 := hbw4.alloc hbw4.size (.cells #[.int .i64 2, .int .i64 0, .string ⟨#[97]⟩, .int .i64 3, .int .i64 2, .string ⟨#[]⟩] 28)
  have Hr5 := Lib.hid (RdP.stepA Hr.out (.cells #[.int .i64 2, .int .i64 0, .string ⟨#[97]⟩, .int .i64 3, .int .i64 2, .string ⟨#[]⟩] 28))
  clear Hr
  have Hr := Hr5
  clear Hr5
  have Hs2 := Lib.hid hrs2
  clear hrs2
  refine (same_true [(2, 0, ⟨#[97]⟩), (3, 2, emp)] [(2, 0, ⟨#[97]⟩), (3, 2, emp)] Ar (some ⟨w4.heap.size, 0, none⟩) _ _ cr 2 _ _ _ Hr.out Hs2.out rfl).mono ?_
  rintro e w6 ⟨rfl, hb6⟩
  have hbw6 := hbw5.trans (hb6.mono hbw5.size)
  have Hr6 := Lib.hid (RdP.step Hr.out hb6)
  clear Hr
  have Hr := Hr6
  clear Hr6
  have Hs26 := Lib.hid (RdP.step Hs2.out hb6)
  clear Hs2
  have Hs2 := Hs26
  clear Hs26
  clear hb6
  clear Hr
  clear Hs2
  go_wp2_with fail
  go_ret
  exact ⟨rfl, hbw6⟩
theorem compEdges_none2 (s t : ByteArray) (n : Int) (hs : s.size ≤ 140737488351232) (ht : t.size ≤ 140737488351232) (w : World) (h1 : s.toList.isEmpty = false) (h2 : t = ⟨#[]⟩) :
    Calls Try.prog 5 #[.string s, .string t, .int .i64 n] w fun e w' => e = .returned (.bool true) ∧ Below w.heap.size w w' := by
  have hbw0 : Below w.heap.size w w := Below.refl _ _
  subst h2
  have hnil := (⟨rfl, Rd.nil _ _ _, by simp⟩ : RdP w w.heap.size none 0 0 [])
  have Hz := Lib.hid hnil
  clear hnil
  go_enter Try.func5, Try.ntmps5
  go_wp2_with fail
  have hc := comp_rd [] [] none none 0 0 0 0 _ Hz.out Hz.out
  rw [show compE [] [] = 0 from by decide] at hc
  rw [show compL [] [] = [] from by decide] at hc
  refine (hc).mono ?_
  rintro e w1 ⟨Ac0, cc0, rfl, hrc0, hb1⟩
  have hbw1 := hbw0.trans (hb1.mono hbw0.size)
  have Hz1 := Lib.hid (RdP.step Hz.out hb1)
  clear Hz
  have Hz := Hz1
  clear Hz1
  clear hb1
  clear hc
  have Hc0 := Lib.hid hrc0
  clear hrc0
  clear Hz
  clear Hc0
  go_wp2_with fail
  have hrp := RdP.builtS w1 #[.int .i64 3, .int .i64 2, .string ⟨#[]⟩] [(3, 2, emp)] 1 rfl rfl (by decide) (by decide)
  have hbw2 := hbw1.alloc hbw1.size (.cells #[.int .i64 3, .int .i64 2, .string ⟨#[]⟩] 28)
  have Hp := Lib.hid hrp
  clear hrp
  have hc := put_any ⟨#[97]⟩ (by decide) (w1.alloc (.cells #[.int .i64 3, .int .i64 2, .string ⟨#[]⟩] 28))
  refine (hc).mono ?_
  rintro e w3 ⟨Aq, rfl, hrq, hb3⟩
  have hbw3 := hbw2.trans (hb3.mono hbw2.size)
  have Hp3 := Lib.hid (RdP.step Hp.out hb3)
  clear Hp
  have Hp := Hp3
  clear Hp3
  clear hb3
  clear hc
  have Hq := Lib.hid hrq
  clear hrq
  go_wp2_with fail
  have hc := comp_rd [(3, 2, emp)] [(2, 0, ⟨#[97]⟩)] (some ⟨w1.heap.size, 0, none⟩) Aq 1 1 1 1 _ Hp.out Hq.out
  rw [show compE [(3, 2, emp)] [(2, 0, ⟨#[97]⟩)] = 0 from by decide] at hc
  rw [show compL [(3, 2, emp)] [(2, 0, ⟨#[97]⟩)] = [(2, 0, ⟨#[97]⟩), (3, 2, emp)] from by decide] at hc
  refine (hc).mono ?_
  rintro e w4 ⟨Ar, cr, rfl, hrr, hb4⟩
  have hbw4 := hbw3.trans (hb4.mono hbw3.size)
  have Hp4 := Lib.hid (RdP.step Hp.out hb4)
  clear Hp
  have Hp := Hp4
  clear Hp4
  have Hq4 := Lib.hid (RdP.step Hq.out hb4)
  clear Hq
  have Hq := Hq4
  clear Hq4
  clear hb4
  clear hc
  have Hr := Lib.hid hrr
  clear hrr
  go_wp2_with fail
  clear Hp
  clear Hq
  have hrs2 := RdP.builtS w4 #[.int .i64 2, .int .i64 0, .string ⟨#[97]⟩, .int .i64 3, .int .i64 2, .string ⟨#[]⟩] [(2, 0, ⟨#[97]⟩), (3, 2, emp)] 2 rfl rfl (by decide) (by decide)
  have hbw5 := hbw4.alloc hbw4.size (.cells #[.int .i64 2, .int .i64 0, .string ⟨#[97]⟩, .int .i64 3, .int .i64 2, .string ⟨#[]⟩] 28)
  have Hr5 := Lib.hid (RdP.stepA Hr.out (.cells #[.int .i64 2, .int .i64 0, .string ⟨#[97]⟩, .int .i64 3, .int .i64 2, .string ⟨#[]⟩] 28))
  clear Hr
  have Hr := Hr5
  clear Hr5
  have Hs2 := Lib.hid hrs2
  clear hrs2
  refine (same_true [(2, 0, ⟨#[97]⟩), (3, 2, emp)] [(2, 0, ⟨#[97]⟩), (3, 2, emp)] Ar (some ⟨w4.heap.size, 0, none⟩) _ _ cr 2 _ _ _ Hr.out Hs2.out rfl).mono ?_
  rintro e w6 ⟨rfl, hb6⟩
  have hbw6 := hbw5.trans (hb6.mono hbw5.size)
  have Hr6 := Lib.hid (RdP.step Hr.out hb6)
  clear Hr
  have Hr := Hr6
  clear Hr6
  have Hs26 := Lib.hid (RdP.step Hs2.out hb6)
  clear Hs2
  have Hs2 := Hs26
  clear Hs26
  clear hb6
  clear Hr
  clear Hs2
  go_wp2_with fail
  go_ret
  exact ⟨rfl, hbw6⟩
theorem compEdges_large (s t : ByteArray) (n : Int) (hs : s.size ≤ 140737488351232) (ht : t.size ≤ 140737488351232) (w : World) (h1 : s.toList.isEmpty = false) (h2 : t.toList.isEmpty = false) (h3 : (500 : Int) < (s.size : Int) + t.size) :
    Calls Try.prog 5 #[.string s, .string t, .int .i64 n] w fun e w' => e = .returned (.bool true) ∧ Below w.heap.size w w' := by
  have hbw0 : Below w.heap.size w w := Below.refl _ _
  have hnil := (⟨rfl, Rd.nil _ _ _, by simp⟩ : RdP w w.heap.size none 0 0 [])
  have Hz := Lib.hid hnil
  clear hnil
  go_enter Try.func5, Try.ntmps5
  go_wp2_with fail
  have hc := comp_rd [] [] none none 0 0 0 0 _ Hz.out Hz.out
  rw [show compE [] [] = 0 from by decide] at hc
  rw [show compL [] [] = [] from by decide] at hc
  refine (hc).mono ?_
  rintro e w1 ⟨Ac0, cc0, rfl, hrc0, hb1⟩
  have hbw1 := hbw0.trans (hb1.mono hbw0.size)
  have Hz1 := Lib.hid (RdP.step Hz.out hb1)
  clear Hz
  have Hz := Hz1
  clear Hz1
  clear hb1
  clear hc
  have Hc0 := Lib.hid hrc0
  clear hrc0
  clear Hz
  clear Hc0
  go_wp2_with fail
  have hrp := RdP.builtS w1 #[.int .i64 3, .int .i64 2, .string ⟨#[]⟩] [(3, 2, emp)] 1 rfl rfl (by decide) (by decide)
  have hbw2 := hbw1.alloc hbw1.size (.cells #[.int .i64 3, .int .i64 2, .string ⟨#[]⟩] 28)
  have Hp := Lib.hid hrp
  clear hrp
  have hc := put_any ⟨#[97]⟩ (by decide) (w1.alloc (.cells #[.int .i64 3, .int .i64 2, .string ⟨#[]⟩] 28))
  refine (hc).mono ?_
  rintro e w3 ⟨Aq, rfl, hrq, hb3⟩
  have hbw3 := hbw2.trans (hb3.mono hbw2.size)
  have Hp3 := Lib.hid (RdP.step Hp.out hb3)
  clear Hp
  have Hp := Hp3
  clear Hp3
  clear hb3
  clear hc
  have Hq := Lib.hid hrq
  clear hrq
  go_wp2_with fail
  have hc := comp_rd [(3, 2, emp)] [(2, 0, ⟨#[97]⟩)] (some ⟨w1.heap.size, 0, none⟩) Aq 1 1 1 1 _ Hp.out Hq.out
  rw [show compE [(3, 2, emp)] [(2, 0, ⟨#[97]⟩)] = 0 from by decide] at hc
  rw [show compL [(3, 2, emp)] [(2, 0, ⟨#[97]⟩)] = [(2, 0, ⟨#[97]⟩), (3, 2, emp)] from by decide] at hc
  refine (hc).mono ?_
  rintro e w4 ⟨Ar, cr, rfl, hrr, hb4⟩
  have hbw4 := hbw3.trans (hb4.mono hbw3.size)
  have Hp4 := Lib.hid (RdP.step Hp.out hb4)
  clear Hp
  have Hp := Hp4
  clear Hp4
  have Hq4 := Lib.hid (RdP.step Hq.out hb4)
  clear Hq
  have Hq := Hq4
  clear Hq4
  clear hb4
  clear hc
  have Hr := Lib.hid hrr
  clear hrr
  go_wp2_with fail
  clear Hp
  clear Hq
  have hrs2 := RdP.builtS w4 #[.int .i64 2, .int .i64 0, .string ⟨#[97]⟩, .int .i64 3, .int .i64 2, .string ⟨#[]⟩] [(2, 0, ⟨#[97]⟩), (3, 2, emp)] 2 rfl rfl (by decide) (by decide)
  have hbw5 := hbw4.alloc hbw4.size (.cells #[.int .i64 2, .int .i64 0, .string ⟨#[97]⟩, .int .i64 3, .int .i64 2, .string ⟨#[]⟩] 28)
  have Hr5 := Lib.hid (RdP.stepA Hr.out (.cells #[.int .i64 2, .int .i64 0, .string ⟨#[97]⟩, .int .i64 3, .int .i64 2, .string ⟨#[]⟩] 28))
  clear Hr
  have Hr := Hr5
  clear Hr5
  have Hs2 := Lib.hid hrs2
  clear hrs2
  refine (same_true [(2, 0, ⟨#[97]⟩), (3, 2, emp)] [(2, 0, ⟨#[97]⟩), (3, 2, emp)] Ar (some ⟨w4.heap.size, 0, none⟩) _ _ cr 2 _ _ _ Hr.out Hs2.out rfl).mono ?_
  rintro e w6 ⟨rfl, hb6⟩
  have hbw6 := hbw5.trans (hb6.mono hbw5.size)
  have Hr6 := Lib.hid (RdP.step Hr.out hb6)
  clear Hr
  have Hr := Hr6
  clear Hr6
  have Hs26 := Lib.hid (RdP.step Hs2.out hb6)
  clear Hs2
  have Hs2 := Hs26
  clear Hs26
  clear hb6
  clear Hr
  clear Hs2
  go_wp2_with fail
  go_ret
  exact ⟨rfl, hbw6⟩
theorem compEdges_ok (s t : ByteArray) (n : Int) (hs : s.size ≤ 140737488351232) (ht : t.size ≤ 140737488351232) (w : World) (h1 : s.toList.isEmpty = false) (h2 : t.toList.isEmpty = false) (h3 : (s.size : Int) + t.size ≤ 500) (h4 : 1 ≤ (s.size : Int)) (h5 : 1 ≤ (t.size : Int)) (h6 : (wi n s.size : Int) + 1 ≤ 497) :
    Calls Try.prog 5 #[.string s, .string t, .int .i64 n] w fun e w' => e = .returned (.bool true) ∧ Below w.heap.size w w' := by
  have hbw0 : Below w.heap.size w w := Below.refl _ _
  have hK := wi_lt n s.size (by omega)
  have hW := within_any n s.size
  generalize wi n s.size = K at *
  have HW := Lib.hid hW
  clear hW
  have HZ := edge4 (K + 1) (by omega) (by omega)
  rw [show ((K + 1 : Nat) : Int) = (K : Int) + 1 from by omega] at HZ
  have Hz4 := Lib.hid HZ
  clear HZ
  have H1e := Lib.hid (edge1 s t (by omega) (by omega) (by omega))
  have H2e := Lib.hid (edge2 s (by omega) (by omega))
  have H3e := Lib.hid (edge3 s t (by omega) (by omega) (by omega))
  have hnil := (⟨rfl, Rd.nil _ _ _, by simp⟩ : RdP w w.heap.size none 0 0 [])
  have Hz := Lib.hid hnil
  clear hnil
  go_enter Try.func5, Try.ntmps5
  go_wp2_with fail
  have hc := comp_rd [] [] none none 0 0 0 0 _ Hz.out Hz.out
  rw [show compE [] [] = 0 from by decide] at hc
  rw [show compL [] [] = [] from by decide] at hc
  refine (hc).mono ?_
  rintro e w1 ⟨Ac0, cc0, rfl, hrc0, hb1⟩
  have hbw1 := hbw0.trans (hb1.mono hbw0.size)
  have Hz1 := Lib.hid (RdP.step Hz.out hb1)
  clear Hz
  have Hz := Hz1
  clear Hz1
  clear hb1
  clear hc
  have Hc0 := Lib.hid hrc0
  clear hrc0
  clear Hz
  clear Hc0
  go_wp2_with fail
  have hrp := RdP.builtS w1 #[.int .i64 3, .int .i64 2, .string ⟨#[]⟩] [(3, 2, emp)] 1 rfl rfl (by decide) (by decide)
  have hbw2 := hbw1.alloc hbw1.size (.cells #[.int .i64 3, .int .i64 2, .string ⟨#[]⟩] 28)
  have Hp := Lib.hid hrp
  clear hrp
  have hc := put_any ⟨#[97]⟩ (by decide) (w1.alloc (.cells #[.int .i64 3, .int .i64 2, .string ⟨#[]⟩] 28))
  refine (hc).mono ?_
  rintro e w3 ⟨Aq, rfl, hrq, hb3⟩
  have hbw3 := hbw2.trans (hb3.mono hbw2.size)
  have Hp3 := Lib.hid (RdP.step Hp.out hb3)
  clear Hp
  have Hp := Hp3
  clear Hp3
  clear hb3
  clear hc
  have Hq := Lib.hid hrq
  clear hrq
  go_wp2_with fail
  have hc := comp_rd [(3, 2, emp)] [(2, 0, ⟨#[97]⟩)] (some ⟨w1.heap.size, 0, none⟩) Aq 1 1 1 1 _ Hp.out Hq.out
  rw [show compE [(3, 2, emp)] [(2, 0, ⟨#[97]⟩)] = 0 from by decide] at hc
  rw [show compL [(3, 2, emp)] [(2, 0, ⟨#[97]⟩)] = [(2, 0, ⟨#[97]⟩), (3, 2, emp)] from by decide] at hc
  refine (hc).mono ?_
  rintro e w4 ⟨Ar, cr, rfl, hrr, hb4⟩
  have hbw4 := hbw3.trans (hb4.mono hbw3.size)
  have Hp4 := Lib.hid (RdP.step Hp.out hb4)
  clear Hp
  have Hp := Hp4
  clear Hp4
  have Hq4 := Lib.hid (RdP.step Hq.out hb4)
  clear Hq
  have Hq := Hq4
  clear Hq4
  clear hb4
  clear hc
  have Hr := Lib.hid hrr
  clear hrr
  go_wp2_with fail
  clear Hp
  clear Hq
  have hrs2 := RdP.builtS w4 #[.int .i64 2, .int .i64 0, .string ⟨#[97]⟩, .int .i64 3, .int .i64 2, .string ⟨#[]⟩] [(2, 0, ⟨#[97]⟩), (3, 2, emp)] 2 rfl rfl (by decide) (by decide)
  have hbw5 := hbw4.alloc hbw4.size (.cells #[.int .i64 2, .int .i64 0, .string ⟨#[97]⟩, .int .i64 3, .int .i64 2, .string ⟨#[]⟩] 28)
  have Hr5 := Lib.hid (RdP.stepA Hr.out (.cells #[.int .i64 2, .int .i64 0, .string ⟨#[97]⟩, .int .i64 3, .int .i64 2, .string ⟨#[]⟩] 28))
  clear Hr
  have Hr := Hr5
  clear Hr5
  have Hs2 := Lib.hid hrs2
  clear hrs2
  refine (same_true [(2, 0, ⟨#[97]⟩), (3, 2, emp)] [(2, 0, ⟨#[97]⟩), (3, 2, emp)] Ar (some ⟨w4.heap.size, 0, none⟩) _ _ cr 2 _ _ _ Hr.out Hs2.out rfl).mono ?_
  rintro e w6 ⟨rfl, hb6⟩
  have hbw6 := hbw5.trans (hb6.mono hbw5.size)
  have Hr6 := Lib.hid (RdP.step Hr.out hb6)
  clear Hr
  have Hr := Hr6
  clear Hr6
  have Hs26 := Lib.hid (RdP.step Hs2.out hb6)
  clear Hs2
  have Hs2 := Hs26
  clear Hs26
  clear hb6
  clear Hr
  clear Hs2
  go_wp2_with fail
  have hc := put_any s (by omega) w6
  refine (hc).mono ?_
  rintro e w7 ⟨Ap, rfl, hrp, hb7⟩
  have hbw7 := hbw6.trans (hb7.mono hbw6.size)
  clear hb7
  clear hc
  have Hp := Lib.hid hrp
  clear hrp
  go_wp2_with fail
  have hrq := RdP.builtS w7 #[.int .i64 1, .int .i64 (s.size : Int), .string ⟨#[]⟩, .int .i64 2, .int .i64 0, .string t] [(1, (s.size : Int), emp), (2, 0, t)] 2 rfl rfl (by decide) (by intro p hp; simp only [List.mem_cons, List.not_mem_nil, or_false] at hp; rcases hp with rfl | rfl <;> first | (simp only; decide) | (simp only; omega))
  have hbw8 := hbw7.alloc hbw7.size (.cells #[.int .i64 1, .int .i64 (s.size : Int), .string ⟨#[]⟩, .int .i64 2, .int .i64 0, .string t] 28)
  have Hp8 := Lib.hid (RdP.stepA Hp.out (.cells #[.int .i64 1, .int .i64 (s.size : Int), .string ⟨#[]⟩, .int .i64 2, .int .i64 0, .string t] 28))
  clear Hp
  have Hp := Hp8
  clear Hp8
  have Hq := Lib.hid hrq
  clear hrq
  have hc := comp_rd [(2, 0, s)] [(1, (s.size : Int), emp), (2, 0, t)] Ap (some ⟨w7.heap.size, 0, none⟩) 1 2 1 2 _ Hp.out Hq.out
  rw [H1e.out.1] at hc
  rw [H1e.out.2] at hc
  refine (hc).mono ?_
  rintro e w9 ⟨Ad, cd, rfl, hrd, hb9⟩
  have hbw9 := hbw8.trans (hb9.mono hbw8.size)
  have Hp9 := Lib.hid (RdP.step Hp.out hb9)
  clear Hp
  have Hp := Hp9
  clear Hp9
  have Hq9 := Lib.hid (RdP.step Hq.out hb9)
  clear Hq
  have Hq := Hq9
  clear Hq9
  clear hb9
  clear hc
  have Hd := Lib.hid hrd
  clear hrd
  go_wp2_with fail
  clear Hp
  clear Hq
  have hc := put_any s (by omega) w9
  refine (hc).mono ?_
  rintro e w10 ⟨Ap, rfl, hrp, hb10⟩
  have hbw10 := hbw9.trans (hb10.mono hbw9.size)
  have Hd10 := Lib.hid (RdP.step Hd.out hb10)
  clear Hd
  have Hd := Hd10
  clear Hd10
  clear hb10
  clear hc
  have Hp := Lib.hid hrp
  clear hrp
  go_wp2_with fail
  have hrq := RdP.builtS w10 #[.int .i64 3, .int .i64 (s.size : Int), .string ⟨#[]⟩] [(3, (s.size : Int), emp)] 1 rfl rfl (by decide) (by intro p hp; simp only [List.mem_cons, List.not_mem_nil, or_false] at hp; rcases hp with rfl <;> first | (simp only; decide) | (simp only; omega))
  have hbw11 := hbw10.alloc hbw10.size (.cells #[.int .i64 3, .int .i64 (s.size : Int), .string ⟨#[]⟩] 28)
  have Hd11 := Lib.hid (RdP.stepA Hd.out (.cells #[.int .i64 3, .int .i64 (s.size : Int), .string ⟨#[]⟩] 28))
  clear Hd
  have Hd := Hd11
  clear Hd11
  have Hp11 := Lib.hid (RdP.stepA Hp.out (.cells #[.int .i64 3, .int .i64 (s.size : Int), .string ⟨#[]⟩] 28))
  clear Hp
  have Hp := Hp11
  clear Hp11
  have Hq := Lib.hid hrq
  clear hrq
  have hc := comp_rd [(2, 0, s)] [(3, (s.size : Int), emp)] Ap (some ⟨w10.heap.size, 0, none⟩) 1 1 1 1 _ Hp.out Hq.out
  rw [H2e.out.1] at hc
  rw [H2e.out.2] at hc
  refine (hc).mono ?_
  rintro e w12 ⟨Ax, cx, rfl, hrx, hb12⟩
  have hbw12 := hbw11.trans (hb12.mono hbw11.size)
  have Hd12 := Lib.hid (RdP.step Hd.out hb12)
  clear Hd
  have Hd := Hd12
  clear Hd12
  have Hp12 := Lib.hid (RdP.step Hp.out hb12)
  clear Hp
  have Hp := Hp12
  clear Hp12
  have Hq12 := Lib.hid (RdP.step Hq.out hb12)
  clear Hq
  have Hq := Hq12
  clear Hq12
  clear hb12
  clear hc
  have Hx := Lib.hid hrx
  clear hrx
  go_wp2_with fail
  clear Hp
  clear Hq
  clear Hx
  have hc := put_any s (by omega) w12
  refine (hc).mono ?_
  rintro e w13 ⟨Ap, rfl, hrp, hb13⟩
  have hbw13 := hbw12.trans (hb13.mono hbw12.size)
  have Hd13 := Lib.hid (RdP.step Hd.out hb13)
  clear Hd
  have Hd := Hd13
  clear Hd13
  clear hb13
  clear hc
  have Hp := Lib.hid hrp
  clear hrp
  go_wp2_with fail
  have hrq := RdP.builtS w13 #[.int .i64 2, .int .i64 0, .string t, .int .i64 3, .int .i64 (s.size : Int), .string ⟨#[]⟩] [(2, 0, t), (3, (s.size : Int), emp)] 2 rfl rfl (by decide) (by intro p hp; simp only [List.mem_cons, List.not_mem_nil, or_false] at hp; rcases hp with rfl | rfl <;> first | (simp only; decide) | (simp only; omega))
  have hbw14 := hbw13.alloc hbw13.size (.cells #[.int .i64 2, .int .i64 0, .string t, .int .i64 3, .int .i64 (s.size : Int), .string ⟨#[]⟩] 28)
  have Hd14 := Lib.hid (RdP.stepA Hd.out (.cells #[.int .i64 2, .int .i64 0, .string t, .int .i64 3, .int .i64 (s.size : Int), .string ⟨#[]⟩] 28))
  clear Hd
  have Hd := Hd14
  clear Hd14
  have Hp14 := Lib.hid (RdP.stepA Hp.out (.cells #[.int .i64 2, .int .i64 0, .string t, .int .i64 3, .int .i64 (s.size : Int), .string ⟨#[]⟩] 28))
  clear Hp
  have Hp := Hp14
  clear Hp14
  have Hq := Lib.hid hrq
  clear hrq
  have hc := comp_rd [(2, 0, s)] [(2, 0, t), (3, (s.size : Int), emp)] Ap (some ⟨w13.heap.size, 0, none⟩) 1 2 1 2 _ Hp.out Hq.out
  rw [H3e.out.1] at hc
  rw [H3e.out.2] at hc
  refine (hc).mono ?_
  rintro e w15 ⟨Ay, cy, rfl, hry, hb15⟩
  have hbw15 := hbw14.trans (hb15.mono hbw14.size)
  have Hd15 := Lib.hid (RdP.step Hd.out hb15)
  clear Hd
  have Hd := Hd15
  clear Hd15
  have Hp15 := Lib.hid (RdP.step Hp.out hb15)
  clear Hp
  have Hp := Hp15
  clear Hp15
  have Hq15 := Lib.hid (RdP.step Hq.out hb15)
  clear Hq
  have Hq := Hq15
  clear Hq15
  clear hb15
  clear hc
  have Hy := Lib.hid hry
  clear hry
  go_wp2_with fail
  clear Hp
  clear Hq
  refine (HW.out w15 (by omega) (by omega)).mono ?_
  rintro e w16 ⟨rfl, rfl⟩
  go_wp2_with fail
  have hrp := RdP.builtS w15 #[.int .i64 3, .int .i64 ((K : Int) + 1), .string ⟨#[]⟩, .int .i64 1, .int .i64 3, .string ⟨#[]⟩] [(3, (K : Int) + 1, emp), (1, 3, emp)] 2 rfl rfl (by decide) (by intro p hp; simp only [List.mem_cons, List.not_mem_nil, or_false] at hp; rcases hp with rfl | rfl <;> first | (simp only; decide) | (simp only; omega))
  have hbw17 := hbw15.alloc hbw15.size (.cells #[.int .i64 3, .int .i64 ((K : Int) + 1), .string ⟨#[]⟩, .int .i64 1, .int .i64 3, .string ⟨#[]⟩] 28)
  have Hd17 := Lib.hid (RdP.stepA Hd.out (.cells #[.int .i64 3, .int .i64 ((K : Int) + 1), .string ⟨#[]⟩, .int .i64 1, .int .i64 3, .string ⟨#[]⟩] 28))
  clear Hd
  have Hd := Hd17
  clear Hd17
  have Hy17 := Lib.hid (RdP.stepA Hy.out (.cells #[.int .i64 3, .int .i64 ((K : Int) + 1), .string ⟨#[]⟩, .int .i64 1, .int .i64 3, .string ⟨#[]⟩] 28))
  clear Hy
  have Hy := Hy17
  clear Hy17
  have Hp := Lib.hid hrp
  clear hrp
  have hrq : RdP ((w15.alloc (.cells #[.int .i64 3, .int .i64 ((K : Int) + 1), .string ⟨#[]⟩, .int .i64 1, .int .i64 3, .string ⟨#[]⟩] 28)).alloc (.cells #[.int .i64 3, .int .i64 3, .string ⟨#[]⟩] 28)) ((w15.alloc (.cells #[.int .i64 3, .int .i64 ((K : Int) + 1), .string ⟨#[]⟩, .int .i64 1, .int .i64 3, .string ⟨#[]⟩] 28)).alloc (.cells #[.int .i64 3, .int .i64 3, .string ⟨#[]⟩] 28)).heap.size (some ⟨w15.heap.size + 1, 0, none⟩) 1 1 [(3, 3, emp)] := by
    have q := RdP.builtS (w15.alloc (.cells #[.int .i64 3, .int .i64 ((K : Int) + 1), .string ⟨#[]⟩, .int .i64 1, .int .i64 3, .string ⟨#[]⟩] 28)) #[.int .i64 3, .int .i64 3, .string ⟨#[]⟩] [(3, 3, emp)] 1 rfl rfl (by decide) (by decide)
    simpa only [World.size_alloc] using q
  have hbw18 := hbw17.alloc hbw17.size (.cells #[.int .i64 3, .int .i64 3, .string ⟨#[]⟩] 28)
  have Hd18 := Lib.hid (RdP.stepA Hd.out (.cells #[.int .i64 3, .int .i64 3, .string ⟨#[]⟩] 28))
  clear Hd
  have Hd := Hd18
  clear Hd18
  have Hy18 := Lib.hid (RdP.stepA Hy.out (.cells #[.int .i64 3, .int .i64 3, .string ⟨#[]⟩] 28))
  clear Hy
  have Hy := Hy18
  clear Hy18
  have Hp18 := Lib.hid (RdP.stepA Hp.out (.cells #[.int .i64 3, .int .i64 3, .string ⟨#[]⟩] 28))
  clear Hp
  have Hp := Hp18
  clear Hp18
  have Hq := Lib.hid hrq
  clear hrq
  have hc := comp_rd [(3, (K : Int) + 1, emp), (1, 3, emp)] [(3, 3, emp)] (some ⟨w15.heap.size, 0, none⟩) (some ⟨w15.heap.size + 1, 0, none⟩) 2 1 2 1 _ Hp.out Hq.out
  rw [Hz4.out.1] at hc
  rw [Hz4.out.2] at hc
  refine (hc).mono ?_
  rintro e w19 ⟨Az, cz, rfl, hrz, hb19⟩
  have hbw19 := hbw18.trans (hb19.mono hbw18.size)
  have Hd19 := Lib.hid (RdP.step Hd.out hb19)
  clear Hd
  have Hd := Hd19
  clear Hd19
  have Hy19 := Lib.hid (RdP.step Hy.out hb19)
  clear Hy
  have Hy := Hy19
  clear Hy19
  have Hp19 := Lib.hid (RdP.step Hp.out hb19)
  clear Hp
  have Hp := Hp19
  clear Hp19
  have Hq19 := Lib.hid (RdP.step Hq.out hb19)
  clear Hq
  have Hq := Hq19
  clear Hq19
  clear hb19
  clear hc
  have Hz := Lib.hid hrz
  clear hrz
  go_wp2_with fail
  clear Hp
  clear Hq
  have hc := put_any (s ++ t) (by rw [ByteArray.size_append]; omega) w19
  refine (hc).mono ?_
  rintro e w20 ⟨Au, rfl, hru, hb20⟩
  have hbw20 := hbw19.trans (hb20.mono hbw19.size)
  have Hd20 := Lib.hid (RdP.step Hd.out hb20)
  clear Hd
  have Hd := Hd20
  clear Hd20
  have Hy20 := Lib.hid (RdP.step Hy.out hb20)
  clear Hy
  have Hy := Hy20
  clear Hy20
  have Hz20 := Lib.hid (RdP.step Hz.out hb20)
  clear Hz
  have Hz := Hz20
  clear Hz20
  clear hb20
  clear hc
  have Hu := Lib.hid hru
  clear hru
  go_wp2_with fail
  refine (same_true [(2, 0, s ++ t)] [(2, 0, (s ++ t))] Ad Au _ _ cd 1 _ _ _ Hd.out Hu.out rfl).mono ?_
  rintro e w21 ⟨rfl, hb21⟩
  have hbw21 := hbw20.trans (hb21.mono hbw20.size)
  have Hd21 := Lib.hid (RdP.step Hd.out hb21)
  clear Hd
  have Hd := Hd21
  clear Hd21
  have Hy21 := Lib.hid (RdP.step Hy.out hb21)
  clear Hy
  have Hy := Hy21
  clear Hy21
  have Hz21 := Lib.hid (RdP.step Hz.out hb21)
  clear Hz
  have Hz := Hz21
  clear Hz21
  have Hu21 := Lib.hid (RdP.step Hu.out hb21)
  clear Hu
  have Hu := Hu21
  clear Hu21
  clear hb21
  go_wp2_with fail
  clear Hd
  clear Hu
  have hc := put_any t (by omega) w21
  refine (hc).mono ?_
  rintro e w22 ⟨Au, rfl, hru, hb22⟩
  have hbw22 := hbw21.trans (hb22.mono hbw21.size)
  have Hy22 := Lib.hid (RdP.step Hy.out hb22)
  clear Hy
  have Hy := Hy22
  clear Hy22
  have Hz22 := Lib.hid (RdP.step Hz.out hb22)
  clear Hz
  have Hz := Hz22
  clear Hz22
  clear hb22
  clear hc
  have Hu := Lib.hid hru
  clear hru
  go_wp2_with fail
  refine (same_true [(2, 0, t)] [(2, 0, t)] Ay Au _ _ cy 1 _ _ _ Hy.out Hu.out rfl).mono ?_
  rintro e w23 ⟨rfl, hb23⟩
  have hbw23 := hbw22.trans (hb23.mono hbw22.size)
  have Hy23 := Lib.hid (RdP.step Hy.out hb23)
  clear Hy
  have Hy := Hy23
  clear Hy23
  have Hz23 := Lib.hid (RdP.step Hz.out hb23)
  clear Hz
  have Hz := Hz23
  clear Hz23
  have Hu23 := Lib.hid (RdP.step Hu.out hb23)
  clear Hu
  have Hu := Hu23
  clear Hu23
  clear hb23
  clear Hy
  clear Hu
  go_wp2_with fail
  have hrv := RdP.builtS w23 #[.int .i64 3, .int .i64 ((K : Int) + 1 + 3), .string ⟨#[]⟩] [(3, (K : Int) + 1 + 3, emp)] 1 rfl rfl (by decide) (by intro p hp; simp only [List.mem_cons, List.not_mem_nil, or_false] at hp; rcases hp with rfl <;> first | (simp only; decide) | (simp only; omega))
  have hbw24 := hbw23.alloc hbw23.size (.cells #[.int .i64 3, .int .i64 ((K : Int) + 1 + 3), .string ⟨#[]⟩] 28)
  have Hz24 := Lib.hid (RdP.stepA Hz.out (.cells #[.int .i64 3, .int .i64 ((K : Int) + 1 + 3), .string ⟨#[]⟩] 28))
  clear Hz
  have Hz := Hz24
  clear Hz24
  have Hv := Lib.hid hrv
  clear hrv
  refine (same_true [(3, (K : Int) + 1 + 3, emp)] [(3, (K : Int) + 1 + 3, emp)] Az (some ⟨w23.heap.size, 0, none⟩) _ _ cz 1 _ _ _ Hz.out Hv.out rfl).mono ?_
  rintro e w25 ⟨rfl, hb25⟩
  have hbw25 := hbw24.trans (hb25.mono hbw24.size)
  have Hz25 := Lib.hid (RdP.step Hz.out hb25)
  clear Hz
  have Hz := Hz25
  clear Hz25
  have Hv25 := Lib.hid (RdP.step Hv.out hb25)
  clear Hv
  have Hv := Hv25
  clear Hv25
  clear hb25
  go_wp2_with fail
  go_ret
  exact ⟨rfl, hbw25⟩
theorem compEdges_big (s t : ByteArray) (n : Int) (hs : s.size ≤ 140737488351232) (ht : t.size ≤ 140737488351232) (w : World) (h1 : s.toList.isEmpty = false) (h2 : t.toList.isEmpty = false) (h3 : (s.size : Int) + t.size ≤ 500) (h4 : 1 ≤ (s.size : Int)) (h5 : 1 ≤ (t.size : Int)) (h6 : 497 < (wi n s.size : Int) + 1) :
    Calls Try.prog 5 #[.string s, .string t, .int .i64 n] w fun e w' => e = .returned (.bool true) ∧ Below w.heap.size w w' := by
  have hbw0 : Below w.heap.size w w := Below.refl _ _
  have hK := wi_lt n s.size (by omega)
  have hW := within_any n s.size
  generalize wi n s.size = K at *
  have HW := Lib.hid hW
  clear hW
  have H1e := Lib.hid (edge1 s t (by omega) (by omega) (by omega))
  have H2e := Lib.hid (edge2 s (by omega) (by omega))
  have H3e := Lib.hid (edge3 s t (by omega) (by omega) (by omega))
  have hnil := (⟨rfl, Rd.nil _ _ _, by simp⟩ : RdP w w.heap.size none 0 0 [])
  have Hz := Lib.hid hnil
  clear hnil
  go_enter Try.func5, Try.ntmps5
  go_wp2_with fail
  have hc := comp_rd [] [] none none 0 0 0 0 _ Hz.out Hz.out
  rw [show compE [] [] = 0 from by decide] at hc
  rw [show compL [] [] = [] from by decide] at hc
  refine (hc).mono ?_
  rintro e w1 ⟨Ac0, cc0, rfl, hrc0, hb1⟩
  have hbw1 := hbw0.trans (hb1.mono hbw0.size)
  have Hz1 := Lib.hid (RdP.step Hz.out hb1)
  clear Hz
  have Hz := Hz1
  clear Hz1
  clear hb1
  clear hc
  have Hc0 := Lib.hid hrc0
  clear hrc0
  clear Hz
  clear Hc0
  go_wp2_with fail
  have hrp := RdP.builtS w1 #[.int .i64 3, .int .i64 2, .string ⟨#[]⟩] [(3, 2, emp)] 1 rfl rfl (by decide) (by decide)
  have hbw2 := hbw1.alloc hbw1.size (.cells #[.int .i64 3, .int .i64 2, .string ⟨#[]⟩] 28)
  have Hp := Lib.hid hrp
  clear hrp
  have hc := put_any ⟨#[97]⟩ (by decide) (w1.alloc (.cells #[.int .i64 3, .int .i64 2, .string ⟨#[]⟩] 28))
  refine (hc).mono ?_
  rintro e w3 ⟨Aq, rfl, hrq, hb3⟩
  have hbw3 := hbw2.trans (hb3.mono hbw2.size)
  have Hp3 := Lib.hid (RdP.step Hp.out hb3)
  clear Hp
  have Hp := Hp3
  clear Hp3
  clear hb3
  clear hc
  have Hq := Lib.hid hrq
  clear hrq
  go_wp2_with fail
  have hc := comp_rd [(3, 2, emp)] [(2, 0, ⟨#[97]⟩)] (some ⟨w1.heap.size, 0, none⟩) Aq 1 1 1 1 _ Hp.out Hq.out
  rw [show compE [(3, 2, emp)] [(2, 0, ⟨#[97]⟩)] = 0 from by decide] at hc
  rw [show compL [(3, 2, emp)] [(2, 0, ⟨#[97]⟩)] = [(2, 0, ⟨#[97]⟩), (3, 2, emp)] from by decide] at hc
  refine (hc).mono ?_
  rintro e w4 ⟨Ar, cr, rfl, hrr, hb4⟩
  have hbw4 := hbw3.trans (hb4.mono hbw3.size)
  have Hp4 := Lib.hid (RdP.step Hp.out hb4)
  clear Hp
  have Hp := Hp4
  clear Hp4
  have Hq4 := Lib.hid (RdP.step Hq.out hb4)
  clear Hq
  have Hq := Hq4
  clear Hq4
  clear hb4
  clear hc
  have Hr := Lib.hid hrr
  clear hrr
  go_wp2_with fail
  clear Hp
  clear Hq
  have hrs2 := RdP.builtS w4 #[.int .i64 2, .int .i64 0, .string ⟨#[97]⟩, .int .i64 3, .int .i64 2, .string ⟨#[]⟩] [(2, 0, ⟨#[97]⟩), (3, 2, emp)] 2 rfl rfl (by decide) (by decide)
  have hbw5 := hbw4.alloc hbw4.size (.cells #[.int .i64 2, .int .i64 0, .string ⟨#[97]⟩, .int .i64 3, .int .i64 2, .string ⟨#[]⟩] 28)
  have Hr5 := Lib.hid (RdP.stepA Hr.out (.cells #[.int .i64 2, .int .i64 0, .string ⟨#[97]⟩, .int .i64 3, .int .i64 2, .string ⟨#[]⟩] 28))
  clear Hr
  have Hr := Hr5
  clear Hr5
  have Hs2 := Lib.hid hrs2
  clear hrs2
  refine (same_true [(2, 0, ⟨#[97]⟩), (3, 2, emp)] [(2, 0, ⟨#[97]⟩), (3, 2, emp)] Ar (some ⟨w4.heap.size, 0, none⟩) _ _ cr 2 _ _ _ Hr.out Hs2.out rfl).mono ?_
  rintro e w6 ⟨rfl, hb6⟩
  have hbw6 := hbw5.trans (hb6.mono hbw5.size)
  have Hr6 := Lib.hid (RdP.step Hr.out hb6)
  clear Hr
  have Hr := Hr6
  clear Hr6
  have Hs26 := Lib.hid (RdP.step Hs2.out hb6)
  clear Hs2
  have Hs2 := Hs26
  clear Hs26
  clear hb6
  clear Hr
  clear Hs2
  go_wp2_with fail
  have hc := put_any s (by omega) w6
  refine (hc).mono ?_
  rintro e w7 ⟨Ap, rfl, hrp, hb7⟩
  have hbw7 := hbw6.trans (hb7.mono hbw6.size)
  clear hb7
  clear hc
  have Hp := Lib.hid hrp
  clear hrp
  go_wp2_with fail
  have hrq := RdP.builtS w7 #[.int .i64 1, .int .i64 (s.size : Int), .string ⟨#[]⟩, .int .i64 2, .int .i64 0, .string t] [(1, (s.size : Int), emp), (2, 0, t)] 2 rfl rfl (by decide) (by intro p hp; simp only [List.mem_cons, List.not_mem_nil, or_false] at hp; rcases hp with rfl | rfl <;> first | (simp only; decide) | (simp only; omega))
  have hbw8 := hbw7.alloc hbw7.size (.cells #[.int .i64 1, .int .i64 (s.size : Int), .string ⟨#[]⟩, .int .i64 2, .int .i64 0, .string t] 28)
  have Hp8 := Lib.hid (RdP.stepA Hp.out (.cells #[.int .i64 1, .int .i64 (s.size : Int), .string ⟨#[]⟩, .int .i64 2, .int .i64 0, .string t] 28))
  clear Hp
  have Hp := Hp8
  clear Hp8
  have Hq := Lib.hid hrq
  clear hrq
  have hc := comp_rd [(2, 0, s)] [(1, (s.size : Int), emp), (2, 0, t)] Ap (some ⟨w7.heap.size, 0, none⟩) 1 2 1 2 _ Hp.out Hq.out
  rw [H1e.out.1] at hc
  rw [H1e.out.2] at hc
  refine (hc).mono ?_
  rintro e w9 ⟨Ad, cd, rfl, hrd, hb9⟩
  have hbw9 := hbw8.trans (hb9.mono hbw8.size)
  have Hp9 := Lib.hid (RdP.step Hp.out hb9)
  clear Hp
  have Hp := Hp9
  clear Hp9
  have Hq9 := Lib.hid (RdP.step Hq.out hb9)
  clear Hq
  have Hq := Hq9
  clear Hq9
  clear hb9
  clear hc
  have Hd := Lib.hid hrd
  clear hrd
  go_wp2_with fail
  clear Hp
  clear Hq
  have hc := put_any s (by omega) w9
  refine (hc).mono ?_
  rintro e w10 ⟨Ap, rfl, hrp, hb10⟩
  have hbw10 := hbw9.trans (hb10.mono hbw9.size)
  have Hd10 := Lib.hid (RdP.step Hd.out hb10)
  clear Hd
  have Hd := Hd10
  clear Hd10
  clear hb10
  clear hc
  have Hp := Lib.hid hrp
  clear hrp
  go_wp2_with fail
  have hrq := RdP.builtS w10 #[.int .i64 3, .int .i64 (s.size : Int), .string ⟨#[]⟩] [(3, (s.size : Int), emp)] 1 rfl rfl (by decide) (by intro p hp; simp only [List.mem_cons, List.not_mem_nil, or_false] at hp; rcases hp with rfl <;> first | (simp only; decide) | (simp only; omega))
  have hbw11 := hbw10.alloc hbw10.size (.cells #[.int .i64 3, .int .i64 (s.size : Int), .string ⟨#[]⟩] 28)
  have Hd11 := Lib.hid (RdP.stepA Hd.out (.cells #[.int .i64 3, .int .i64 (s.size : Int), .string ⟨#[]⟩] 28))
  clear Hd
  have Hd := Hd11
  clear Hd11
  have Hp11 := Lib.hid (RdP.stepA Hp.out (.cells #[.int .i64 3, .int .i64 (s.size : Int), .string ⟨#[]⟩] 28))
  clear Hp
  have Hp := Hp11
  clear Hp11
  have Hq := Lib.hid hrq
  clear hrq
  have hc := comp_rd [(2, 0, s)] [(3, (s.size : Int), emp)] Ap (some ⟨w10.heap.size, 0, none⟩) 1 1 1 1 _ Hp.out Hq.out
  rw [H2e.out.1] at hc
  rw [H2e.out.2] at hc
  refine (hc).mono ?_
  rintro e w12 ⟨Ax, cx, rfl, hrx, hb12⟩
  have hbw12 := hbw11.trans (hb12.mono hbw11.size)
  have Hd12 := Lib.hid (RdP.step Hd.out hb12)
  clear Hd
  have Hd := Hd12
  clear Hd12
  have Hp12 := Lib.hid (RdP.step Hp.out hb12)
  clear Hp
  have Hp := Hp12
  clear Hp12
  have Hq12 := Lib.hid (RdP.step Hq.out hb12)
  clear Hq
  have Hq := Hq12
  clear Hq12
  clear hb12
  clear hc
  have Hx := Lib.hid hrx
  clear hrx
  go_wp2_with fail
  clear Hp
  clear Hq
  clear Hx
  have hc := put_any s (by omega) w12
  refine (hc).mono ?_
  rintro e w13 ⟨Ap, rfl, hrp, hb13⟩
  have hbw13 := hbw12.trans (hb13.mono hbw12.size)
  have Hd13 := Lib.hid (RdP.step Hd.out hb13)
  clear Hd
  have Hd := Hd13
  clear Hd13
  clear hb13
  clear hc
  have Hp := Lib.hid hrp
  clear hrp
  go_wp2_with fail
  have hrq := RdP.builtS w13 #[.int .i64 2, .int .i64 0, .string t, .int .i64 3, .int .i64 (s.size : Int), .string ⟨#[]⟩] [(2, 0, t), (3, (s.size : Int), emp)] 2 rfl rfl (by decide) (by intro p hp; simp only [List.mem_cons, List.not_mem_nil, or_false] at hp; rcases hp with rfl | rfl <;> first | (simp only; decide) | (simp only; omega))
  have hbw14 := hbw13.alloc hbw13.size (.cells #[.int .i64 2, .int .i64 0, .string t, .int .i64 3, .int .i64 (s.size : Int), .string ⟨#[]⟩] 28)
  have Hd14 := Lib.hid (RdP.stepA Hd.out (.cells #[.int .i64 2, .int .i64 0, .string t, .int .i64 3, .int .i64 (s.size : Int), .string ⟨#[]⟩] 28))
  clear Hd
  have Hd := Hd14
  clear Hd14
  have Hp14 := Lib.hid (RdP.stepA Hp.out (.cells #[.int .i64 2, .int .i64 0, .string t, .int .i64 3, .int .i64 (s.size : Int), .string ⟨#[]⟩] 28))
  clear Hp
  have Hp := Hp14
  clear Hp14
  have Hq := Lib.hid hrq
  clear hrq
  have hc := comp_rd [(2, 0, s)] [(2, 0, t), (3, (s.size : Int), emp)] Ap (some ⟨w13.heap.size, 0, none⟩) 1 2 1 2 _ Hp.out Hq.out
  rw [H3e.out.1] at hc
  rw [H3e.out.2] at hc
  refine (hc).mono ?_
  rintro e w15 ⟨Ay, cy, rfl, hry, hb15⟩
  have hbw15 := hbw14.trans (hb15.mono hbw14.size)
  have Hd15 := Lib.hid (RdP.step Hd.out hb15)
  clear Hd
  have Hd := Hd15
  clear Hd15
  have Hp15 := Lib.hid (RdP.step Hp.out hb15)
  clear Hp
  have Hp := Hp15
  clear Hp15
  have Hq15 := Lib.hid (RdP.step Hq.out hb15)
  clear Hq
  have Hq := Hq15
  clear Hq15
  clear hb15
  clear hc
  have Hy := Lib.hid hry
  clear hry
  go_wp2_with fail
  clear Hp
  clear Hq
  refine (HW.out w15 (by omega) (by omega)).mono ?_
  rintro e w16 ⟨rfl, rfl⟩
  go_wp2_with fail
  have hrp := RdP.builtS w15 #[.int .i64 3, .int .i64 ((K : Int) + 1), .string ⟨#[]⟩, .int .i64 1, .int .i64 3, .string ⟨#[]⟩] [(3, (K : Int) + 1, emp), (1, 3, emp)] 2 rfl rfl (by decide) (by intro p hp; simp only [List.mem_cons, List.not_mem_nil, or_false] at hp; rcases hp with rfl | rfl <;> first | (simp only; decide) | (simp only; omega))
  have hbw17 := hbw15.alloc hbw15.size (.cells #[.int .i64 3, .int .i64 ((K : Int) + 1), .string ⟨#[]⟩, .int .i64 1, .int .i64 3, .string ⟨#[]⟩] 28)
  have Hd17 := Lib.hid (RdP.stepA Hd.out (.cells #[.int .i64 3, .int .i64 ((K : Int) + 1), .string ⟨#[]⟩, .int .i64 1, .int .i64 3, .string ⟨#[]⟩] 28))
  clear Hd
  have Hd := Hd17
  clear Hd17
  have Hy17 := Lib.hid (RdP.stepA Hy.out (.cells #[.int .i64 3, .int .i64 ((K : Int) + 1), .string ⟨#[]⟩, .int .i64 1, .int .i64 3, .string ⟨#[]⟩] 28))
  clear Hy
  have Hy := Hy17
  clear Hy17
  have Hp := Lib.hid hrp
  clear hrp
  have hrq : RdP ((w15.alloc (.cells #[.int .i64 3, .int .i64 ((K : Int) + 1), .string ⟨#[]⟩, .int .i64 1, .int .i64 3, .string ⟨#[]⟩] 28)).alloc (.cells #[.int .i64 3, .int .i64 3, .string ⟨#[]⟩] 28)) ((w15.alloc (.cells #[.int .i64 3, .int .i64 ((K : Int) + 1), .string ⟨#[]⟩, .int .i64 1, .int .i64 3, .string ⟨#[]⟩] 28)).alloc (.cells #[.int .i64 3, .int .i64 3, .string ⟨#[]⟩] 28)).heap.size (some ⟨w15.heap.size + 1, 0, none⟩) 1 1 [(3, 3, emp)] := by
    have q := RdP.builtS (w15.alloc (.cells #[.int .i64 3, .int .i64 ((K : Int) + 1), .string ⟨#[]⟩, .int .i64 1, .int .i64 3, .string ⟨#[]⟩] 28)) #[.int .i64 3, .int .i64 3, .string ⟨#[]⟩] [(3, 3, emp)] 1 rfl rfl (by decide) (by decide)
    simpa only [World.size_alloc] using q
  have hbw18 := hbw17.alloc hbw17.size (.cells #[.int .i64 3, .int .i64 3, .string ⟨#[]⟩] 28)
  have Hd18 := Lib.hid (RdP.stepA Hd.out (.cells #[.int .i64 3, .int .i64 3, .string ⟨#[]⟩] 28))
  clear Hd
  have Hd := Hd18
  clear Hd18
  have Hy18 := Lib.hid (RdP.stepA Hy.out (.cells #[.int .i64 3, .int .i64 3, .string ⟨#[]⟩] 28))
  clear Hy
  have Hy := Hy18
  clear Hy18
  have Hp18 := Lib.hid (RdP.stepA Hp.out (.cells #[.int .i64 3, .int .i64 3, .string ⟨#[]⟩] 28))
  clear Hp
  have Hp := Hp18
  clear Hp18
  have Hq := Lib.hid hrq
  clear hrq
  have hc := comp_rd [(3, (K : Int) + 1, emp), (1, 3, emp)] [(3, 3, emp)] (some ⟨w15.heap.size, 0, none⟩) (some ⟨w15.heap.size + 1, 0, none⟩) 2 1 2 1 _ Hp.out Hq.out
  refine (hc).mono ?_
  rintro e w19 ⟨Az, cz, rfl, hrz, hb19⟩
  have hbw19 := hbw18.trans (hb19.mono hbw18.size)
  have Hd19 := Lib.hid (RdP.step Hd.out hb19)
  clear Hd
  have Hd := Hd19
  clear Hd19
  have Hy19 := Lib.hid (RdP.step Hy.out hb19)
  clear Hy
  have Hy := Hy19
  clear Hy19
  have Hp19 := Lib.hid (RdP.step Hp.out hb19)
  clear Hp
  have Hp := Hp19
  clear Hp19
  have Hq19 := Lib.hid (RdP.step Hq.out hb19)
  clear Hq
  have Hq := Hq19
  clear Hq19
  clear hb19
  clear hc
  have Hz := Lib.hid hrz
  clear hrz
  go_wp2_with fail
  clear Hp
  clear Hq
  have hc := put_any (s ++ t) (by rw [ByteArray.size_append]; omega) w19
  refine (hc).mono ?_
  rintro e w20 ⟨Au, rfl, hru, hb20⟩
  have hbw20 := hbw19.trans (hb20.mono hbw19.size)
  have Hd20 := Lib.hid (RdP.step Hd.out hb20)
  clear Hd
  have Hd := Hd20
  clear Hd20
  have Hy20 := Lib.hid (RdP.step Hy.out hb20)
  clear Hy
  have Hy := Hy20
  clear Hy20
  have Hz20 := Lib.hid (RdP.step Hz.out hb20)
  clear Hz
  have Hz := Hz20
  clear Hz20
  clear hb20
  clear hc
  have Hu := Lib.hid hru
  clear hru
  go_wp2_with fail
  refine (same_true [(2, 0, s ++ t)] [(2, 0, (s ++ t))] Ad Au _ _ cd 1 _ _ _ Hd.out Hu.out rfl).mono ?_
  rintro e w21 ⟨rfl, hb21⟩
  have hbw21 := hbw20.trans (hb21.mono hbw20.size)
  have Hd21 := Lib.hid (RdP.step Hd.out hb21)
  clear Hd
  have Hd := Hd21
  clear Hd21
  have Hy21 := Lib.hid (RdP.step Hy.out hb21)
  clear Hy
  have Hy := Hy21
  clear Hy21
  have Hz21 := Lib.hid (RdP.step Hz.out hb21)
  clear Hz
  have Hz := Hz21
  clear Hz21
  have Hu21 := Lib.hid (RdP.step Hu.out hb21)
  clear Hu
  have Hu := Hu21
  clear Hu21
  clear hb21
  go_wp2_with fail
  clear Hd
  clear Hu
  have hc := put_any t (by omega) w21
  refine (hc).mono ?_
  rintro e w22 ⟨Au, rfl, hru, hb22⟩
  have hbw22 := hbw21.trans (hb22.mono hbw21.size)
  have Hy22 := Lib.hid (RdP.step Hy.out hb22)
  clear Hy
  have Hy := Hy22
  clear Hy22
  have Hz22 := Lib.hid (RdP.step Hz.out hb22)
  clear Hz
  have Hz := Hz22
  clear Hz22
  clear hb22
  clear hc
  have Hu := Lib.hid hru
  clear hru
  go_wp2_with fail
  refine (same_true [(2, 0, t)] [(2, 0, t)] Ay Au _ _ cy 1 _ _ _ Hy.out Hu.out rfl).mono ?_
  rintro e w23 ⟨rfl, hb23⟩
  have hbw23 := hbw22.trans (hb23.mono hbw22.size)
  have Hy23 := Lib.hid (RdP.step Hy.out hb23)
  clear Hy
  have Hy := Hy23
  clear Hy23
  have Hz23 := Lib.hid (RdP.step Hz.out hb23)
  clear Hz
  have Hz := Hz23
  clear Hz23
  have Hu23 := Lib.hid (RdP.step Hu.out hb23)
  clear Hu
  have Hu := Hu23
  clear Hu23
  clear hb23
  clear Hy
  clear Hu
  go_wp2_with fail
  go_ret
  exact ⟨rfl, hbw23⟩
theorem walk_CompEdges (s : ByteArray) (hs : s.size ≤ 140737488351232) (t : ByteArray) (ht : t.size ≤ 140737488351232) (n : Int) (wn : (Lit.int .i64 n).wf = true) (w : World) :
    Calls Try.prog 5 #[.string s, .string t, .int .i64 n] w fun e w' => e = .returned (.bool true) ∧ Below w.heap.size w w' := by
  rcases str_cases s with h1 | ⟨h1, h4⟩
  · exact compEdges_none s t n hs ht w h1
  · rcases str_cases t with h2 | ⟨h2, h5⟩
    · exact compEdges_none2 s t n hs ht w h1 h2
    · by_cases h3 : (500 : Int) < (s.size : Int) + t.size
      · exact compEdges_large s t n hs ht w h1 h2 h3
      · by_cases h6 : (wi n s.size : Int) + 1 ≤ 497
        · exact compEdges_ok s t n hs ht w h1 h2 (by omega) h4 h5 h6
        · exact compEdges_big s t n hs ht w h1 h2 (by omega) h4 h5 (by omega)
end Go.Proofs.Ytgocddkoancdiaa
