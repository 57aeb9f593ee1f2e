/- Contract of the laws' helper cuts. -/
import Derived.Test.YtchnbmdfpgkefaaPart
import Derived.Test.YtchnbmdfpgkefaaJoinLaw
namespace Go.Proofs.Ytchnbmdfpgkefaa
open Go.ChangeShapes Go.WideShapes Go.RowKit
set_option linter.unusedVariables false
set_option linter.unusedSimpArgs false
set_option maxRecDepth 100000
set_option maxHeartbeats 4000000

theorem cut1_any (k m : Int) (t : ByteArray) (r : Bool) (hr : (k == 3) = r) (w : World) :
    Calls Try.prog 62 #[.agg #[.int .i64 k, .int .i64 m, .string t]] w fun e w' => e = .returned (.bool r) ∧ Below w.heap.size w w' := by
  subst hr
  go_enter Try.func62, Try.ntmps62
  go_wp2_with fail
  go_ret
  exact ⟨rfl, (Below.refl _ _).alloc (Nat.le_refl _) _⟩
def cutV : Value := .func (.func 62) #[] #[]
theorem hasCut_take (l : List Pt) (k : Nat) (h : k < l.length) : hasCut (l.take (k + 1)) = (hasCut (l.take k) || (l[k].1 == 3)) := by
  unfold hasCut
  rw [List.take_succ_eq_append_getElem h, List.any_append]
  simp only [List.any_cons, List.any_nil, Bool.or_false]
theorem hasCut_of_at (l : List Pt) (k : Nat) (h : k < l.length) (hc : (l[k].1 == 3) = true) : hasCut l = true := by
  unfold hasCut
  rw [List.any_eq_true]
  exact ⟨l[k], List.getElem_mem h, hc⟩
theorem icut_any (l : List Pt) (A : Option Addr) (n c B : Nat) (w : World) (h : RdP w B A n c l) (hB : B ≤ w.heap.size) :
    Calls Try.prog 94 #[.slice A n c, cutV] w fun e w' => (∃ i : Int, e = .returned (.int .i64 i) ∧ decide (0 ≤ i) = hasCut l) ∧ Below w.heap.size w w' := by
  have hle := h.le
  have H := Lib.hid h
  clear h
  obtain ⟨R, hR⟩ : ∃ R, hasCut l = R := ⟨_, rfl⟩
  rw [hR]
  have HR := Lib.hid hR
  clear hR
  unfold cutV
  go_enter Try.func94, Try.ntmps94
  go_wp2_with fail
  go_loopw [5, 8] (fun x i wr => ∃ (k : Nat), k ≤ n ∧ i = .int .i64 k ∧ Hid (hasCut (l.take k) = false) ∧ Below w.heap.size w wr) (fun _ i _ => n - (intOf i).toNat)
  case atStart => exact ⟨0, by omega, rfl, Lib.hid (by simp [hasCut]), Below.refl _ _⟩
  case round =>
    obtain ⟨k, hk, rfl, hnc, hbw⟩ := hrel
    by_cases hlt : k < n
    · have hkl : k < l.length := by have := H.out.1; omega
      obtain ⟨g, o, rfl, hg, c0, c1, c2⟩ := (H.out.below (hbw.mono hB)).at_ k hlt
      have hts := Lib.hid (hasCut_take l k hkl)
      have hof := Lib.hid (hasCut_of_at l k hkl)
      obtain ⟨p, hp⟩ : ∃ p, p = l[k] := ⟨_, rfl⟩
      rw [← hp] at hts hof c0 c1 c2
      clear hp
      obtain ⟨kd, m, t⟩ := p
      simp only at c0 c1 c2
      have hk0 : (0 : Int) ≤ (k : Int) := by omega
      have hkn : (k : Int) < (n : Int) := by omega
      obtain ⟨r, hr⟩ : ∃ r, (kd == 3) = r := ⟨_, rfl⟩
      have Hr := Lib.hid hr
      clear hr
      go_wp2_with fail
      refine (cut1_any kd m t r Hr.out _).mono ?_
      rintro e w2 ⟨rfl, hb2⟩
      have hw2 := hbw.trans (hb2.mono hbw.size)
      clear hb2
      cases r with
      | false =>
        go_wp2_with fail
        go_roundw
        case rel => exact ⟨k + 1, by omega, by go_num, Lib.hid (by rw [hts.out, hnc.out]; simpa using Hr.out), hw2⟩
        case measure => simp [intOf]; omega
      | true =>
        have hRt : R = true := by rw [← HR.out]; exact hof.out Hr.out
        subst hRt
        go_wp2_with fail
        go_ret
        exact ⟨⟨(k : Int), rfl, by simp⟩, hw2⟩
    · have hRf : R = false := by
        rw [← HR.out]
        have := hnc.out
        rwa [List.take_of_length_le (by have := H.out.1; omega)] at this
      subst hRf
      go_wp2_with fail
      go_ret
      exact ⟨⟨-1, rfl, by decide⟩, hbw⟩
theorem cuts_any (l : List Pt) (A : Option Addr) (n c B : Nat) (w : World) (h : RdP w B A n c l) (hB : B ≤ w.heap.size) :
    Calls Try.prog 26 #[.slice A n c] w fun e w' => e = .returned (.bool (hasCut l)) ∧ Below w.heap.size w w' := by
  have hcf : Calls Try.prog 61 #[.slice A n c, cutV] w fun e w' => e = .returned (.bool (hasCut l)) ∧ Below w.heap.size w w' := by
    have hi := icut_any l A n c B w h hB
    generalize hasCut l = R at *
    have Hi := Lib.hid hi
    clear hi h
    unfold cutV at *
    go_enter Try.func61, Try.ntmps61
    go_wp2_with fail
    refine Hi.out.mono ?_
    rintro e w1 ⟨⟨i, rfl, hi⟩, hb⟩
    have Hh := Lib.hid hi
    clear hi
    go_wp2_with fail
    go_ret
    exact ⟨by rw [← Hh.out]; rfl, hb⟩
  generalize hasCut l = R at *
  have Hc := Lib.hid hcf
  clear hcf h
  unfold cutV at *
  go_enter Try.func26, Try.ntmps26
  go_wp2_with fail
  refine Hc.out.mono ?_
  rintro e w1 ⟨rfl, hb⟩
  go_wp2_with fail
  go_ret
  exact ⟨rfl, hb⟩
end Go.Proofs.Ytchnbmdfpgkefaa
