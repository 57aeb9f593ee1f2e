/- Contract of scrivref.In. -/
import Derived.Test.YtbgaoehpljnolaaNorm
namespace Go.Proofs.Ytbgaoehpljnolaa
open Go.ChangeShapes Go.WideShapes Go.RowKit
set_option linter.unusedVariables false
set_option linter.unusedSimpArgs false
set_option maxRecDepth 100000
set_option maxHeartbeats 4000000

theorem szN_snoc (l : List Pt) (p : Pt) : szN (l ++ [p]) = szN l + p.2.1 := by
  induction l with
  | nil => simp [szN]
  | cons q l ih => simp only [List.cons_append, szN, ih]; omega
theorem nok_num {p : Pt} (h : NOk p) : 0 ≤ p.2.1 ∧ p.2.1 ≤ 500 := by
  rcases h with ⟨h1, h2, h3, h4⟩ | ⟨h1, h2, h3⟩ <;> omega
theorem in_any (l : List Pt) (A : Option Addr) (n c B : Nat) (w : World) (h : RdP w B A n c l) (hB : B ≤ w.heap.size) (hn : (n : Int) ≤ 2000) (hf : ∀ p ∈ l, NOk p) :
    Calls Try.prog 38 #[.slice A n c] w fun e w' => e = .returned (.int .i64 (nI (units l))) ∧ Below w.heap.size w w' := by
  rw [nI_noks l hf]
  have H := Lib.hid h
  have HF := Lib.hid hf
  clear h hf
  go_enter Try.func38, Try.ntmps38
  go_wp2_with fail
  go_loopw [3, 5, 8] (fun x q i wr => ∃ (k : Nat) (a : Int), k ≤ n ∧ i = .int .i64 k ∧ x = .int .i64 a ∧ Hid (a = szN (l.take k)) ∧ 0 ≤ a ∧ a ≤ 500 * k ∧ Below w.heap.size w wr) (fun _ _ i _ => n - (intOf i).toNat)
  case atStart => exact ⟨0, 0, by omega, rfl, rfl, Lib.hid rfl, by omega, by omega, Below.refl _ _⟩
  case round =>
    obtain ⟨k, a, hk, rfl, rfl, ha, ha0, ha1, hbw⟩ := hrel
    by_cases hlt : k < n
    · have hkl : k < l.length := by have := H.out.1; omega
      obtain ⟨g, o, rfl, hg, c0, c1, c2⟩ := (H.out.below (hbw.mono hB)).at_ k hlt
      have hbd := nok_num (HF.out l[k] (List.getElem_mem hkl))
      have hts : Hid (l.take (k + 1) = l.take k ++ [l[k]]) := Lib.hid (by rw [List.take_succ_eq_append_getElem hkl])
      obtain ⟨p, hp⟩ : ∃ p, p = l[k] := ⟨_, rfl⟩
      rw [← hp] at hbd hts c0 c1 c2
      clear hp
      obtain ⟨kd, m, t⟩ := p
      simp only at hbd c0 c1 c2
      have hk0 : (0 : Int) ≤ (k : Int) := by omega
      have hkn : (k : Int) < (n : Int) := by omega
      have hgl : g < wr.heap.size := by have := hbw.size; omega
      obtain ⟨h1, h2⟩ := hbd
      go_wp2_with fail
      go_roundw
      case rel => exact ⟨k + 1, a + m, by omega, by go_num, rfl, Lib.hid (by rw [hts.out, szN_snoc, ← ha.out]), by omega, by omega, hbw.alloc hbw.size _⟩
      case measure => simp [intOf]; omega
    · have hka : Hid (a = szN l) := Lib.hid (by rw [ha.out, List.take_of_length_le (by have := H.out.1; omega)])
      clear ha
      go_wp2_with fail
      go_ret
      exact ⟨by rw [← hka.out]; rfl, hbw⟩
end Go.Proofs.Ytbgaoehpljnolaa
