/- Contracts of the helpers of the laws on meet: puts, cuts. -/
import Derived.Test.YtgocddkoancdiaaMeet
namespace Go.Proofs.Ytgocddkoancdiaa
open Go.ChangeShapes Go.WideShapes Go.RowKit
set_option linter.unusedVariables false
set_option linter.unusedSimpArgs false
set_option maxRecDepth 100000
set_option maxHeartbeats 4000000

theorem szP_snoc (l : List Pt) (p : Pt) : szP (l ++ [p]) = szP l + (p.2.2.size : Int) := by
  induction l with
  | nil => simp [szP]
  | cons q l ih => simp only [List.cons_append, szP, ih]; omega
theorem puts_any (l : List Pt) (A : Option Addr) (n c B : Nat) (w : World) (h : RdP w B A n c l) (hB : B ≤ w.heap.size) (hk : chk l = 0) :
    Calls Try.prog 17 #[.slice A n c] w fun e w' => e = .returned (.int .i64 (nP (units l))) ∧ Below w.heap.size w w' := by
  rw [nP_units l (chk_parts hk).2.2.1]
  have H := Lib.hid h
  have HF := Lib.hid (chk_parts hk).2.2.2.2.2
  have hn : (n : Int) ≤ 1600 := by have := (chk_parts hk).1; have := h.1; omega
  clear h hk
  go_enter Try.func17, Try.ntmps17
  go_wp2_with fail
  go_loopw [3, 5, 8] (fun x q i wr => ∃ (k : Nat) (a : Int), k ≤ n ∧ i = .int .i64 k ∧ x = .int .i64 a ∧ Hid (a = szP (l.take k)) ∧ 0 ≤ a ∧ a ≤ 500 * k ∧ Below w.heap.size w wr) (fun _ _ i _ => n - (intOf i).toNat)
  case atStart => exact ⟨0, 0, by omega, rfl, rfl, Lib.hid rfl, by omega, by omega, Below.refl _ _⟩
  case round =>
    obtain ⟨k, a, hk, rfl, rfl, ha, ha0, ha1, hbw⟩ := hrel
    by_cases hlt : k < n
    · have hkl : k < l.length := by have := H.out.1; omega
      obtain ⟨g, o, rfl, hg, c0, c1, c2⟩ := (H.out.below (hbw.mono hB)).at_ k hlt
      have hbd := ((fitE_zero _).1 (HF.out l[k] (List.getElem_mem hkl))).2.2
      have hts : Hid (l.take (k + 1) = l.take k ++ [l[k]]) := Lib.hid (by rw [List.take_succ_eq_append_getElem hkl])
      obtain ⟨p, hp⟩ : ∃ p, p = l[k] := ⟨_, rfl⟩
      rw [← hp] at hbd hts c0 c1 c2
      clear hp
      obtain ⟨kd, m, t⟩ := p
      simp only at hbd c0 c1 c2
      have hk0 : (0 : Int) ≤ (k : Int) := by omega
      have hkn : (k : Int) < (n : Int) := by omega
      have hgl : g < wr.heap.size := by have := hbw.size; omega
      go_wp2_with fail
      go_roundw
      case rel => exact ⟨k + 1, a + t.size, by omega, by go_num, rfl, Lib.hid (by rw [hts.out, szP_snoc, ← ha.out]), by omega, by omega, hbw.alloc hbw.size _⟩
      case measure => simp [intOf]; omega
    · have hka : Hid (a = szP l) := Lib.hid (by rw [ha.out, List.take_of_length_le (by have := H.out.1; omega)])
      clear ha
      go_wp2_with fail
      go_ret
      exact ⟨by rw [← hka.out]; rfl, hbw⟩
end Go.Proofs.Ytgocddkoancdiaa
