/- scrivkeep's helpers over room: mark, filledUp. -/
import Derived.Test.YtfncpcmaplhojaaRoomy
namespace Go.Proofs.Ytfncpcmaplhojaa
open Go.ChangeShapes Go.WideShapes Go.RowKit
set_option linter.unusedVariables false
set_option linter.unusedSimpArgs false
set_option maxRecDepth 100000
set_option maxHeartbeats 4000000

def mk9 : Pt := (9, 0, ⟨#[109, 97, 114, 107]⟩)
theorem mark_any (w : World) :
    Calls Try.prog 26 #[] w fun e w' => e = .returned (pval mk9) ∧ Below w.heap.size w w' := by
  unfold pval mk9
  go_enter Try.func26, Try.ntmps26
  go_wp2_with fail
  exact bodyPost_ret (v := .agg #[.int .i64 9, .int .i64 0, .string ⟨#[109, 97, 114, 107]⟩]) (by simp [results, Try.results26, go_sem]) rfl ⟨rfl, (Below.refl _ _).alloc (Nat.le_refl _) _⟩
theorem filled_any (l : List Pt) (g n B : Nat) (w : World) (h : Room w B g n (l ++ [mk9, mk9, mk9])) (hn : l.length = n) (hn2 : n ≤ 4398046511104) :
    Calls Try.prog 28 #[.slice (some ⟨g, 0, none⟩) n (n + 3)] w fun e w' => e = .returned (.bool true) ∧ Below w.heap.size w w' := by
  obtain ⟨hBg, cs, hgb, hcs, hct⟩ := h
  have hlt := hgb.lt
  have hca : ∀ k, k < 3 → w.cell? ⟨g, n * 3 + k * 3, none⟩ = some (.int .i64 9) ∧ w.cell? ⟨g, n * 3 + k * 3 + 1, none⟩ = some (.int .i64 0) ∧ w.cell? ⟨g, n * 3 + k * 3 + 2, none⟩ = some (.string ⟨#[109, 97, 114, 107]⟩) := by
    intro k hk
    subst hn
    have e : ∀ i, w.cell? ⟨g, i, none⟩ = (pc (l ++ [mk9, mk9, mk9]))[i]? := by
      intro i
      rw [hgb.cell i, ← hct, Array.getElem?_toList]
    have hl : l.length + k < (l ++ [mk9, mk9, mk9]).length := by simp; omega
    have h1 := pc_at (l ++ [mk9, mk9, mk9]) (l.length + k) hl
    have h2 : (l ++ [mk9, mk9, mk9])[l.length + k]'hl = mk9 := by
      have h3 : (l ++ [mk9, mk9, mk9])[l.length + k]? = some mk9 := by
        rw [List.getElem?_append_right (by omega), Nat.add_sub_cancel_left]
        match k, hk with
        | 0, _ => rfl
        | 1, _ => rfl
        | 2, _ => rfl
      rw [List.getElem?_eq_getElem hl] at h3
      exact Option.some.inj h3
    rw [h2, Nat.add_mul] at h1
    rw [e, e, e]
    exact h1
  have Hca := Lib.hid hca
  have Hn := Lib.hid hn
  obtain ⟨N, hN⟩ : ∃ N, n + 3 = N := ⟨_, rfl⟩
  rw [hN]
  have hnN : (n : Int) ≤ (N : Int) := by omega
  have hN0 : (0 : Int) ≤ (N : Int) := by omega
  have hn0 : (0 : Int) ≤ (n : Int) := by omega
  have hN3 : N - n = 3 := by omega
  have HN := Lib.hid hN
  clear hN hca hn hgb hcs hct
  go_enter Try.func28, Try.ntmps28
  go_wp2_with fail
  go_loopw [4, 12] (fun yv iv wr => ∃ (k : Nat), k ≤ 3 ∧ iv = .int .i64 k ∧ Hid (Below w.heap.size w wr)) (fun _ iv _ => 3 - (intOf iv).toNat)
  case atStart => exact ⟨0, by omega, rfl, Lib.hid (Below.refl _ _)⟩
  case round =>
    obtain ⟨k, hk, rfl, hbw⟩ := hrel
    by_cases hlt2 : k < 3
    · have hkc : (k : Int) < 3 := by omega
      have hk0 : (0 : Int) ≤ (k : Int) := by omega
      obtain ⟨a0, a1, a2⟩ := Hca.out k hlt2
      rw [← hbw.out.cell hlt] at a0 a1 a2
      have hgl : g < wr.heap.size := Nat.lt_of_lt_of_le hlt hbw.out.size
      go_wp2_with fail
      have hy := Blk.new wr 45 #[.int .i64 9, .int .i64 0, .string ⟨#[109, 97, 114, 107]⟩]
      have hb4 : Below w.heap.size w (wr.alloc (.cells #[.int .i64 9, .int .i64 0, .string ⟨#[109, 97, 114, 107]⟩] 45)) := hbw.out.alloc hbw.out.size _
      clear a0 a1 a2
      obtain ⟨W4, hW4⟩ : ∃ W4, wr.alloc (.cells #[.int .i64 9, .int .i64 0, .string ⟨#[109, 97, 114, 107]⟩] 45) = W4 := ⟨_, rfl⟩
      obtain ⟨y, hy0⟩ : ∃ y, wr.heap.size = y := ⟨_, rfl⟩
      rw [hW4] at hy hb4 ⊢
      rw [hy0] at hy ⊢
      have HB4 := Lib.hid hb4
      have hyl := hy.lt
      have KeepS := Lib.hid (fun (w' : World) (h : Below W4.heap.size W4 w') => (⟨h, by rw [h.cell hyl]; exact hy.cell 0, by rw [h.cell hyl]; exact hy.cell 1, by rw [h.cell hyl]; exact hy.cell 2, Nat.lt_of_lt_of_le hyl h.size⟩ : Below W4.heap.size W4 w' ∧ w'.cell? ⟨y, 0, none⟩ = some (.int .i64 9) ∧ w'.cell? ⟨y, 1, none⟩ = some (.int .i64 0) ∧ w'.cell? ⟨y, 2, none⟩ = some (.string ⟨#[109, 97, 114, 107]⟩) ∧ y < w'.heap.size))
      have G := Lib.hid (fun (w' : World) (h : Below W4.heap.size W4 w' ∧ w'.cell? ⟨y, 0, none⟩ = some (.int .i64 9) ∧ w'.cell? ⟨y, 1, none⟩ = some (.int .i64 0) ∧ w'.cell? ⟨y, 2, none⟩ = some (.string ⟨#[109, 97, 114, 107]⟩) ∧ y < w'.heap.size) => (mark_any w').mono (R' := fun e w'' => e = .returned (.agg #[.int .i64 9, .int .i64 0, .string ⟨#[109, 97, 114, 107]⟩]) ∧ (Below W4.heap.size W4 w'' ∧ w''.cell? ⟨y, 0, none⟩ = some (.int .i64 9) ∧ w''.cell? ⟨y, 1, none⟩ = some (.int .i64 0) ∧ w''.cell? ⟨y, 2, none⟩ = some (.string ⟨#[109, 97, 114, 107]⟩) ∧ y < w''.heap.size)) (fun e w'' hh => ⟨hh.1, KeepS.out _ (h.1.trans (hh.2.mono h.1.size))⟩))
      have hS4 := KeepS.out W4 (Below.refl _ _)
      clear hy hy0 hW4 hyl hb4
      go_region_held3 (fun w' => Below W4.heap.size W4 w' ∧ w'.cell? ⟨y, 0, none⟩ = some (.int .i64 9) ∧ w'.cell? ⟨y, 1, none⟩ = some (.int .i64 0) ∧ w'.cell? ⟨y, 2, none⟩ = some (.string ⟨#[109, 97, 114, 107]⟩) ∧ y < w'.heap.size) (first | with_reducible assumption | exact KeepS.out _ (Below.drew (Below.refl _ _)) | exact KeepS.out _ (by assumption) | exact KeepS.out _ (Below.drew (by assumption)) | exact KeepS.out _ (Below.drew (Below.refl _ _)) | (go_split_ands; exact KeepS.out _ (by assumption)))
        ((go_at_call 26; with_reducible refine (G.out _ (by assumption)).mono ?_; rintro e w9 ⟨rfl, hS9⟩))
      go_wp2_with fail
      have hS9' : Below W4.heap.size W4 w9 ∧ w9.cell? ⟨y, 0, none⟩ = some (.int .i64 9) ∧ w9.cell? ⟨y, 1, none⟩ = some (.int .i64 0) ∧ w9.cell? ⟨y, 2, none⟩ = some (.string ⟨#[109, 97, 114, 107]⟩) ∧ y < w9.heap.size := by assumption
      go_roundw
      case rel => exact ⟨k + 1, by omega, by go_num, Lib.hid (HB4.out.trans (hS9'.1.mono HB4.out.size))⟩
      case measure => simp [intOf]; omega
    · obtain rfl : k = 3 := by omega
      go_wp2_with fail
      go_ret
      exact ⟨rfl, hbw.out⟩
end Go.Proofs.Ytfncpcmaplhojaa
