/- KeepMore's closure. -/
import Derived.Test.YtcclcgapcnjcdaaInts
namespace Go.Proofs.Ytcclcgapcnjcdaa
open Go.ChangeShapes Go.WideShapes Go.RowKit
set_option linter.unusedVariables false
set_option linter.unusedSimpArgs false
set_option maxRecDepth 100000
set_option maxHeartbeats 4000000

theorem notIn_any (l : List Int) (x : Int) (A : Option Addr) (n c g B : Nat) (w : World) (h : RdI w B A n c l) (hc : w.cell? ⟨g, 0, none⟩ = some (.slice A n c)) :
    Calls Try.prog 20 #[.int .i64 x, .pointer (some ⟨g, 0, none⟩)] w fun e w' => e = .returned (.bool (!decide (x ∈ l))) ∧ w = w' := by
  have H := Lib.hid h
  clear h
  go_enter Try.func20, Try.ntmps20
  go_wp2_with fail
  refine (contains_any l x A n c _ _ H.out _ rfl).mono ?_
  rintro e w1 ⟨rfl, rfl⟩
  go_wp2_with fail
  go_ret
  exact ⟨rfl, rfl⟩
theorem indexFn_any (l K : List Int) (A A' : Option Addr) (n c n' c' g B B' : Nat) (w : World) (h : RdI w B A n c l) (h' : RdI w B' A' n' c' K) (hc : w.cell? ⟨g, 0, none⟩ = some (.slice A' n' c')) (hall : ∀ x ∈ l, x ∈ K) :
    Calls Try.prog 49 #[.slice A n c, .func (.func 20) #[] #[.pointer (some ⟨g, 0, none⟩)]] w fun e w' => e = .returned (.int .i64 (-1)) ∧ w = w' := by
  have hle := h.le
  have H := Lib.hid h
  have H' := Lib.hid h'
  have Hall := Lib.hid hall
  have Hc := Lib.hid hc
  clear h h' hall hc
  go_enter Try.func49, Try.ntmps49
  go_wp2_with fail
  go_loop [5, 8] (fun _ i => ∃ k : Nat, k ≤ n ∧ i = .int .i64 k) (fun _ i => n - (intOf i).toNat)
  case atStart => exact ⟨0, by omega, rfl⟩
  case round =>
    obtain ⟨k, hk, rfl⟩ := hrel
    by_cases hlt : k < n
    · have hkl : k < l.length := by have := H.out.1; omega
      obtain ⟨b, of, rfl, hb, hcell⟩ := H.out.at_ k hlt
      have hmem := Hall.out _ (List.getElem_mem hkl)
      generalize l[k] = y at *
      have hk0 : (0 : Int) ≤ (k : Int) := by omega
      have hkn : (k : Int) < (n : Int) := by omega
      have Hn := Lib.hid (notIn_any K y A' n' c' g B' w H'.out Hc.out)
      have Hm := Lib.hid hmem
      clear hmem
      go_wp2_with fail
      refine Hn.out.mono ?_
      rintro e w1 ⟨rfl, rfl⟩
      rw [decide_eq_true Hm.out]
      go_wp2_with fail
      go_round
      case rel => exact ⟨k + 1, by omega, by go_num⟩
      case measure => simp [intOf]; omega
    · have hkn : decide (k < n) = false := by simpa using hlt
      go_wp2_with fail
      go_ret
      exact ⟨rfl, rfl⟩
theorem containsFn_any (l K : List Int) (A A' : Option Addr) (n c n' c' g B B' : Nat) (w : World) (h : RdI w B A n c l) (h' : RdI w B' A' n' c' K) (hc : w.cell? ⟨g, 0, none⟩ = some (.slice A' n' c')) (hall : ∀ x ∈ l, x ∈ K) :
    Calls Try.prog 19 #[.slice A n c, .func (.func 20) #[] #[.pointer (some ⟨g, 0, none⟩)]] w fun e w' => e = .returned (.bool false) ∧ w = w' := by
  have H := Lib.hid (indexFn_any l K A A' n c n' c' g B B' w h h' hc hall)
  clear h h' hc hall
  go_enter Try.func19, Try.ntmps19
  go_wp2_with fail
  refine H.out.mono ?_
  rintro e w1 ⟨rfl, rfl⟩
  go_wp2_with fail
  go_ret
  exact ⟨rfl, rfl⟩
end Go.Proofs.Ytcclcgapcnjcdaa
