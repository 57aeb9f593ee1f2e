/- Arguments opened; what the bound on the bulk gives. -/
import Derived.Test.YtdaiemhepaakfaaBase
namespace Go.Proofs.Ytdaiemhepaakfaa
open Go.ChangeShapes Go.WideShapes Go.RowKit
set_option linter.unusedVariables false
set_option linter.unusedSimpArgs false

theorem bulk_bound {H : Type} {l g : List (DataW H)} (hk : Rows.uptoSmall H (l ++ g) = true) : Rows.uptoBulkAll (l ++ g) ≤ 1048576 := by
  have := of_decide_eq_true hk
  exact this
theorem bulk_one_le {H : Type} (d : DataW H) : 1 ≤ Rows.uptoBulk d := by
  cases d with
  | lit l => cases l <;> simp [Rows.uptoBulk]
  | nil => simp [Rows.uptoBulk]
  | ptr d => simp [Rows.uptoBulk]
  | slice elems spare => simp [Rows.uptoBulk]
  | agg parts => simp [Rows.uptoBulk]
  | iface t d => simp [Rows.uptoBulk]
  | map entries => simp [Rows.uptoBulk]
  | held h => simp [Rows.uptoBulk]
theorem bulk_mem {H : Type} {d : DataW H} : ∀ {l : List (DataW H)}, d ∈ l → Rows.uptoBulk d ≤ Rows.uptoBulkAll l
  | x :: r, h => by
    simp only [Rows.uptoBulkAll]
    cases List.mem_cons.1 h with
    | inl e => subst e; omega
    | inr e => have := bulk_mem e; omega
theorem bulk_length {H : Type} : ∀ (l : List (DataW H)), l.length ≤ Rows.uptoBulkAll l
  | [] => by simp [Rows.uptoBulkAll]
  | x :: r => by have := bulk_one_le x; have := bulk_length r; simp only [Rows.uptoBulkAll, List.length_cons]; omega
theorem bulk_string {H : Type} {s : ByteArray} {l : List (DataW H)} (h : Rows.uptoBulkAll l ≤ 1048576) (hm : DataW.lit (.string s.data.toList) ∈ l) : s.size ≤ 1048576 := by
  have := bulk_mem hm
  simp only [Rows.uptoBulk, Array.length_toList] at this
  have : s.size = s.data.size := rfl
  omega
theorem bulk_part {H : Type} {d : DataW H} {l : List (DataW H)} (h : Rows.uptoBulkAll l ≤ 1048576) (hm : d ∈ l) : Rows.uptoBulk d ≤ 1048576 := by
  have := bulk_mem hm
  omega
end Go.Proofs.Ytdaiemhepaakfaa
