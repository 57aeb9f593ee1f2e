/- SpotKept: the walk. A byte that is kept. -/
import Derived.Test.YtbgaoehpljnolaaSpot
import Derived.Test.YtbgaoehpljnolaaApply
import Derived.Test.YtbgaoehpljnolaaTurn
import Derived.Test.YtbgaoehpljnolaaKeptLaw
import Derived.Test.YtbgaoehpljnolaaWithin
import Derived.Test.YtbgaoehpljnolaaSame
import Derived.Test.YtbgaoehpljnolaaOpenParts
namespace Go.Proofs.Ytbgaoehpljnolaa
open Go.ChangeShapes Go.WideShapes Go.RowKit
set_option linter.unusedVariables false
set_option linter.unusedSimpArgs false
set_option maxRecDepth 100000
set_option maxHeartbeats 4000000


theorem spotKept_err (a : List Pt) (A : Option Addr) (n k : Nat) (s : ByteArray) (i : Int) (hs : s.size ≤ 140737488351232) (w : World) (ha : RdP w w.heap.size A n k a) (h1 : doE a s ≠ 0) :
    Calls Try.prog 10 #[.slice A n k, .string s, .int .i64 i] w fun e w' => e = .returned (.bool true) ∧ Below w.heap.size w w' := by
  have hbw0 : Below w.heap.size w w := Below.refl _ _
  have Ha := Lib.hid ha
  clear ha
  have hne : (doE a s != 0) = true := by simpa using h1
  have H1 := Lib.hid h1
  clear h1
  go_enter Try.func10, Try.ntmps10
  have hrp := RdP.builtS w #[.int .i64 2, .int .i64 0, .string ⟨#[97]⟩, .int .i64 1, .int .i64 2, .string ⟨#[]⟩] [(2, 0, ⟨#[97]⟩), (1, 2, emp)] 2 rfl rfl (by decide) (by decide)
  have hbw1 := hbw0.alloc hbw0.size (.cells #[.int .i64 2, .int .i64 0, .string ⟨#[97]⟩, .int .i64 1, .int .i64 2, .string ⟨#[]⟩] 59)
  have Ha1 := Lib.hid (RdP.stepA Ha.out (.cells #[.int .i64 2, .int .i64 0, .string ⟨#[97]⟩, .int .i64 1, .int .i64 2, .string ⟨#[]⟩] 59))
  clear Ha
  have Ha := Ha1
  clear Ha1
  have Hp := Lib.hid hrp
  clear hrp
  go_wp2_with fail
  have hc := spot_any [(2, 0, ⟨#[97]⟩), (1, 2, emp)] (some ⟨w.heap.size, 0, none⟩) 2 2 _ 1 false _ Hp.out (Nat.le_refl _) (by decide) (by decide)
  rw [show sp false (units [(2, 0, ⟨#[97]⟩), (1, 2, emp)]) 1 = 2 from by decide] at hc
  refine (hc).mono ?_
  rintro e w2 ⟨rfl, hb2⟩
  have hbw2 := hbw1.trans (hb2.mono hbw1.size)
  have Ha2 := Lib.hid (RdP.step Ha.out hb2)
  clear Ha
  have Ha := Ha2
  clear Ha2
  have Hp2 := Lib.hid (RdP.step Hp.out hb2)
  clear Hp
  have Hp := Hp2
  clear Hp2
  clear hb2
  clear hc
  clear Hp
  go_wp2_with fail
  have hc := do_any a A n k _ s _ Ha.out (Nat.le_refl _) (by omega)
  rw [do_err H1.out] at hc
  refine (hc).mono ?_
  rintro e w3 ⟨rfl, hb3⟩
  have hbw3 := hbw2.trans (hb3.mono hbw2.size)
  have Ha3 := Lib.hid (RdP.step Ha.out hb3)
  clear Ha
  have Ha := Ha3
  clear Ha3
  clear hb3
  clear hc
  go_wp2_with fail
  go_ret
  exact ⟨rfl, hbw3⟩
theorem spotKept_emp (a : List Pt) (A : Option Addr) (n k : Nat) (s : ByteArray) (i : Int) (hs : s.size ≤ 140737488351232) (w : World) (ha : RdP w w.heap.size A n k a) (h1 : doE a s = 0) (h2 : s = ⟨#[]⟩) :
    Calls Try.prog 10 #[.slice A n k, .string s, .int .i64 i] w fun e w' => e = .returned (.bool true) ∧ Below w.heap.size w w' := by
  have hbw0 : Below w.heap.size w w := Below.refl _ _
  have Ha := Lib.hid ha
  clear ha
  subst h2
  have H1 := Lib.hid h1
  clear h1
  go_enter Try.func10, Try.ntmps10
  have hrp := RdP.builtS w #[.int .i64 2, .int .i64 0, .string ⟨#[97]⟩, .int .i64 1, .int .i64 2, .string ⟨#[]⟩] [(2, 0, ⟨#[97]⟩), (1, 2, emp)] 2 rfl rfl (by decide) (by decide)
  have hbw1 := hbw0.alloc hbw0.size (.cells #[.int .i64 2, .int .i64 0, .string ⟨#[97]⟩, .int .i64 1, .int .i64 2, .string ⟨#[]⟩] 59)
  have Ha1 := Lib.hid (RdP.stepA Ha.out (.cells #[.int .i64 2, .int .i64 0, .string ⟨#[97]⟩, .int .i64 1, .int .i64 2, .string ⟨#[]⟩] 59))
  clear Ha
  have Ha := Ha1
  clear Ha1
  have Hp := Lib.hid hrp
  clear hrp
  go_wp2_with fail
  have hc := spot_any [(2, 0, ⟨#[97]⟩), (1, 2, emp)] (some ⟨w.heap.size, 0, none⟩) 2 2 _ 1 false _ Hp.out (Nat.le_refl _) (by decide) (by decide)
  rw [show sp false (units [(2, 0, ⟨#[97]⟩), (1, 2, emp)]) 1 = 2 from by decide] at hc
  refine (hc).mono ?_
  rintro e w2 ⟨rfl, hb2⟩
  have hbw2 := hbw1.trans (hb2.mono hbw1.size)
  have Ha2 := Lib.hid (RdP.step Ha.out hb2)
  clear Ha
  have Ha := Ha2
  clear Ha2
  have Hp2 := Lib.hid (RdP.step Hp.out hb2)
  clear Hp
  have Hp := Hp2
  clear Hp2
  clear hb2
  clear hc
  clear Hp
  go_wp2_with fail
  have hc := do_any a A n k _ ⟨#[]⟩ _ Ha.out (Nat.le_refl _) (by decide)
  rw [H1.out] at hc
  refine (hc).mono ?_
  rintro e w3 ⟨rfl, hb3⟩
  have hbw3 := hbw2.trans (hb3.mono hbw2.size)
  have Ha3 := Lib.hid (RdP.step Ha.out hb3)
  clear Ha
  have Ha := Ha3
  clear Ha3
  clear hb3
  clear hc
  go_wp2_with fail
  go_ret
  exact ⟨rfl, hbw3⟩
theorem spotKept_no (a : List Pt) (A : Option Addr) (n k : Nat) (s : ByteArray) (i : Int) (hs : s.size ≤ 140737488351232) (w : World) (ha : RdP w w.heap.size A n k a) (h1 : doE a s = 0) (h2 : s.toList.isEmpty = false) (h3 : 1 ≤ (s.size : Int)) (h4 : kp (units a) (wi i s.size) = none) :
    Calls Try.prog 10 #[.slice A n k, .string s, .int .i64 i] w fun e w' => e = .returned (.bool true) ∧ Below w.heap.size w w' := by
  have hbw0 : Below w.heap.size w w := Below.refl _ _
  have Ha := Lib.hid ha
  clear ha
  have H1 := Lib.hid h1
  clear h1
  have hK := wi_lt i s.size (by omega)
  have hW := within_any i s.size
  generalize wi i s.size = K at *
  have HW := Lib.hid hW
  clear hW
  have Hc := Lib.hid (do_chk H1.out)
  have hs5 := Hc.out.2.2.2
  have he := kp_none (units a) K (by rw [Hc.out.2.1]; omega) h4
  have he5 := sp_le true (units a) K
  rw [← do_size H1.out] at he5
  have hd5 := do_size_any a s
  obtain ⟨T, hT⟩ : ∃ T, doS a s = T := ⟨_, rfl⟩
  rw [hT] at hd5 he5
  have HT := Lib.hid hT
  clear hT
  clear h4
  have hcK : ((K + 1 : Nat) : Int) = (K : Int) + 1 := by omega
  have HcK := Lib.hid hcK
  clear hcK
  have HE := Lib.hid he
  clear he
  go_enter Try.func10, Try.ntmps10
  have hrp := RdP.builtS w #[.int .i64 2, .int .i64 0, .string ⟨#[97]⟩, .int .i64 1, .int .i64 2, .string ⟨#[]⟩] [(2, 0, ⟨#[97]⟩), (1, 2, emp)] 2 rfl rfl (by decide) (by decide)
  have hbw1 := hbw0.alloc hbw0.size (.cells #[.int .i64 2, .int .i64 0, .string ⟨#[97]⟩, .int .i64 1, .int .i64 2, .string ⟨#[]⟩] 59)
  have Ha1 := Lib.hid (RdP.stepA Ha.out (.cells #[.int .i64 2, .int .i64 0, .string ⟨#[97]⟩, .int .i64 1, .int .i64 2, .string ⟨#[]⟩] 59))
  clear Ha
  have Ha := Ha1
  clear Ha1
  have Hp := Lib.hid hrp
  clear hrp
  go_wp2_with fail
  have hc := spot_any [(2, 0, ⟨#[97]⟩), (1, 2, emp)] (some ⟨w.heap.size, 0, none⟩) 2 2 _ 1 false _ Hp.out (Nat.le_refl _) (by decide) (by decide)
  rw [show sp false (units [(2, 0, ⟨#[97]⟩), (1, 2, emp)]) 1 = 2 from by decide] at hc
  refine (hc).mono ?_
  rintro e w2 ⟨rfl, hb2⟩
  have hbw2 := hbw1.trans (hb2.mono hbw1.size)
  have Ha2 := Lib.hid (RdP.step Ha.out hb2)
  clear Ha
  have Ha := Ha2
  clear Ha2
  have Hp2 := Lib.hid (RdP.step Hp.out hb2)
  clear Hp
  have Hp := Hp2
  clear Hp2
  clear hb2
  clear hc
  clear Hp
  go_wp2_with fail
  have hc := do_any a A n k _ s _ Ha.out (Nat.le_refl _) (by omega)
  rw [H1.out] at hc
  rw [HT.out] at hc
  refine (hc).mono ?_
  rintro e w3 ⟨rfl, hb3⟩
  have hbw3 := hbw2.trans (hb3.mono hbw2.size)
  have Ha3 := Lib.hid (RdP.step Ha.out hb3)
  clear Ha
  have Ha := Ha3
  clear Ha3
  clear hb3
  clear hc
  go_wp2_with fail
  refine (HW.out w3 (by omega) (by omega)).mono ?_
  rintro e w4 ⟨rfl, rfl⟩
  go_wp2_with fail
  have hc := spot_any a A n k _ K true _ Ha.out (Nat.le_refl _) Hc.out.1 (by rw [Hc.out.2.1]; omega)
  refine (hc).mono ?_
  rintro e w5 ⟨rfl, hb5⟩
  have hbw5 := hbw3.trans (hb5.mono hbw3.size)
  have Ha5 := Lib.hid (RdP.step Ha.out hb5)
  clear Ha
  have Ha := Ha5
  clear Ha5
  clear hb5
  clear hc
  go_wp2_with fail
  have hc := spot_any a A n k _ (K + 1) false _ Ha.out (Nat.le_refl _) Hc.out.1 (by rw [Hc.out.2.1]; omega)
  rw [HE.out] at hc
  rw [HcK.out] at hc
  refine (hc).mono ?_
  rintro e w6 ⟨rfl, hb6⟩
  have hbw6 := hbw5.trans (hb6.mono hbw5.size)
  have Ha6 := Lib.hid (RdP.step Ha.out hb6)
  clear Ha
  have Ha := Ha6
  clear Ha6
  clear hb6
  clear hc
  generalize sp true (units a) K = q at *
  go_wp2_with fail
  go_quiet (fail)
  go_wp2_with fail
  go_ret
  exact ⟨rfl, below_drewN_ hbw6 _⟩
theorem spotKept_yes (a : List Pt) (A : Option Addr) (n k : Nat) (s : ByteArray) (i : Int) (hs : s.size ≤ 140737488351232) (w : World) (ha : RdP w w.heap.size A n k a) (p : Nat) (h1 : doE a s = 0) (h2 : s.toList.isEmpty = false) (h3 : 1 ≤ (s.size : Int)) (h4 : kp (units a) (wi i s.size) = some p) :
    Calls Try.prog 10 #[.slice A n k, .string s, .int .i64 i] w fun e w' => e = .returned (.bool true) ∧ Below w.heap.size w w' := by
  have hbw0 : Below w.heap.size w w := Below.refl _ _
  have Ha := Lib.hid ha
  clear ha
  have H1 := Lib.hid h1
  clear h1
  have hK := wi_lt i s.size (by omega)
  have hW := within_any i s.size
  generalize wi i s.size = K at *
  have HW := Lib.hid hW
  clear hW
  have Hc := Lib.hid (do_chk H1.out)
  have hs5 := Hc.out.2.2.2
  obtain ⟨e1, e2, e3⟩ := kp_some (units a) K p h4
  rw [← do_size H1.out] at e3
  have hat := ap_kp id (units a) s.data.toList K p (by rw [Hc.out.2.1]; rfl) h4
  rw [← do_list H1.out] at hat
  have hbyte : ∀ (u1 : p < (doS a s).data.toList.length) (u2 : K < s.data.toList.length), (doS a s).data.toList[p] = s.data.toList[K] := fun u1 u2 => by
    rw [List.getElem?_eq_getElem u1, List.getElem?_eq_getElem u2] at hat
    exact Option.some.inj hat
  have Hbyte := Lib.hid hbyte
  clear hat hbyte
  have hd5 := do_size_any a s
  obtain ⟨T, hT⟩ : ∃ T, doS a s = T := ⟨_, rfl⟩
  rw [hT] at hd5 e3 Hbyte
  have HT := Lib.hid hT
  clear hT
  clear h4
  have hcK : ((K + 1 : Nat) : Int) = (K : Int) + 1 := by omega
  have HcK := Lib.hid hcK
  clear hcK
  have HE := Lib.hid (⟨e1, e2⟩ : _ ∧ _)
  clear e1 e2
  go_enter Try.func10, Try.ntmps10
  have hrp := RdP.builtS w #[.int .i64 2, .int .i64 0, .string ⟨#[97]⟩, .int .i64 1, .int .i64 2, .string ⟨#[]⟩] [(2, 0, ⟨#[97]⟩), (1, 2, emp)] 2 rfl rfl (by decide) (by decide)
  have hbw1 := hbw0.alloc hbw0.size (.cells #[.int .i64 2, .int .i64 0, .string ⟨#[97]⟩, .int .i64 1, .int .i64 2, .string ⟨#[]⟩] 59)
  have Ha1 := Lib.hid (RdP.stepA Ha.out (.cells #[.int .i64 2, .int .i64 0, .string ⟨#[97]⟩, .int .i64 1, .int .i64 2, .string ⟨#[]⟩] 59))
  clear Ha
  have Ha := Ha1
  clear Ha1
  have Hp := Lib.hid hrp
  clear hrp
  go_wp2_with fail
  have hc := spot_any [(2, 0, ⟨#[97]⟩), (1, 2, emp)] (some ⟨w.heap.size, 0, none⟩) 2 2 _ 1 false _ Hp.out (Nat.le_refl _) (by decide) (by decide)
  rw [show sp false (units [(2, 0, ⟨#[97]⟩), (1, 2, emp)]) 1 = 2 from by decide] at hc
  refine (hc).mono ?_
  rintro e w2 ⟨rfl, hb2⟩
  have hbw2 := hbw1.trans (hb2.mono hbw1.size)
  have Ha2 := Lib.hid (RdP.step Ha.out hb2)
  clear Ha
  have Ha := Ha2
  clear Ha2
  have Hp2 := Lib.hid (RdP.step Hp.out hb2)
  clear Hp
  have Hp := Hp2
  clear Hp2
  clear hb2
  clear hc
  clear Hp
  go_wp2_with fail
  have hc := do_any a A n k _ s _ Ha.out (Nat.le_refl _) (by omega)
  rw [H1.out] at hc
  rw [HT.out] at hc
  refine (hc).mono ?_
  rintro e w3 ⟨rfl, hb3⟩
  have hbw3 := hbw2.trans (hb3.mono hbw2.size)
  have Ha3 := Lib.hid (RdP.step Ha.out hb3)
  clear Ha
  have Ha := Ha3
  clear Ha3
  clear hb3
  clear hc
  go_wp2_with fail
  refine (HW.out w3 (by omega) (by omega)).mono ?_
  rintro e w4 ⟨rfl, rfl⟩
  go_wp2_with fail
  have hc := spot_any a A n k _ K true _ Ha.out (Nat.le_refl _) Hc.out.1 (by rw [Hc.out.2.1]; omega)
  rw [HE.out.1] at hc
  refine (hc).mono ?_
  rintro e w5 ⟨rfl, hb5⟩
  have hbw5 := hbw3.trans (hb5.mono hbw3.size)
  have Ha5 := Lib.hid (RdP.step Ha.out hb5)
  clear Ha
  have Ha := Ha5
  clear Ha5
  clear hb5
  clear hc
  go_wp2_with fail
  have hc := spot_any a A n k _ (K + 1) false _ Ha.out (Nat.le_refl _) Hc.out.1 (by rw [Hc.out.2.1]; omega)
  rw [HE.out.2] at hc
  rw [HcK.out] at hc
  refine (hc).mono ?_
  rintro e w6 ⟨rfl, hb6⟩
  have hbw6 := hbw5.trans (hb6.mono hbw5.size)
  have Ha6 := Lib.hid (RdP.step Ha.out hb6)
  clear Ha
  have Ha := Ha6
  clear Ha6
  clear hb6
  clear hc
  have hpT : (p : Int) < (T.size : Int) := by omega
  have hKs : (K : Int) < (s.size : Int) := by omega
  have hp0 : (0 : Int) ≤ (p : Int) := by omega
  have hK0 : (0 : Int) ≤ (K : Int) := by omega
  have hpp : ((p : Int) + 1 == (p : Int)) = false := by simp; omega
  go_wp2_with fail
  have hb : T[p]'e3 = s[K]'hK := by
    have := Hbyte.out e3 hK
    simp only [Array.getElem_toList] at this
    exact this
  have Hb := Lib.hid hb
  clear hb
  go_quiet (fail)
  go_wp2_with fail
  go_ret
  refine ⟨?_, below_drewN_ hbw6 _⟩
  show Ending.returned (.bool (((T[p]'e3).toNat : Int) == ((s[K]'hK).toNat : Int))) = .returned (.bool true)
  rw [Hb.out]
  simp
theorem walk_SpotKept (v : Value) (a : List Pt) (s : ByteArray) (hs : s.size ≤ 140737488351232) (i : Int) (wi_ : (Lit.int .i64 i).wf = true) (w : World) (ha : IsParts w v a) :
    Calls Try.prog 10 #[v, .string s, .int .i64 i] w fun e w' => e = .returned (.bool true) ∧ Below w.heap.size w w' := by
  obtain ⟨A, n, k, rfl, ha⟩ := ha
  by_cases h1 : doE a s = 0
  · rcases str_cases s with h2 | ⟨h2, h3⟩
    · exact spotKept_emp a A n k s i hs w ha h1 h2
    · rcases h4 : kp (units a) (wi i s.size) with _ | p
      · exact spotKept_no a A n k s i hs w ha h1 h2 h3 h4
      · exact spotKept_yes a A n k s i hs w ha p h1 h2 h3 h4
  · exact spotKept_err a A n k s i hs w ha h1
end Go.Proofs.Ytbgaoehpljnolaa
