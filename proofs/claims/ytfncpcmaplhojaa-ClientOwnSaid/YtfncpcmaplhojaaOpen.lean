/- Arguments opened; what the bound on the bulk gives. -/
import Derived.Test.YtfncpcmaplhojaaBase
import Derived.Lib.SmallJoins
namespace Go.Proofs.Ytfncpcmaplhojaa
open Go.ChangeShapes Go.WideShapes Go.RowKit Go.Joins
set_option linter.unusedVariables false
set_option linter.unusedSimpArgs false
set_option maxRecDepth 100000

theorem bulk_bound {H : Type} {l g : List (DataW H)} (hk : Rows.uptoSmall H (l ++ g) = true) : Rows.uptoBulkAll (l ++ g) ≤ 1048576 := by
  have := of_decide_eq_true hk
  exact this
theorem bulk_one_le {H : Type} (d : DataW H) : 1 ≤ Rows.uptoBulk d := by
  cases d with
  | lit l => cases l <;> simp [Rows.uptoBulk]
  | nil => simp [Rows.uptoBulk]
  | ptr d => simp [Rows.uptoBulk]
  | slice elems spare => simp [Rows.uptoBulk]
  | agg parts => simp [Rows.uptoBulk]
  | iface t d => simp [Rows.uptoBulk]
  | map entries => simp [Rows.uptoBulk]
  | held h => simp [Rows.uptoBulk]
theorem bulk_mem {H : Type} {d : DataW H} : ∀ {l : List (DataW H)}, d ∈ l → Rows.uptoBulk d ≤ Rows.uptoBulkAll l
  | x :: r, h => by
    simp only [Rows.uptoBulkAll]
    cases List.mem_cons.1 h with
    | inl e => subst e; omega
    | inr e => have := bulk_mem e; omega
theorem bulk_length {H : Type} : ∀ (l : List (DataW H)), l.length ≤ Rows.uptoBulkAll l
  | [] => by simp [Rows.uptoBulkAll]
  | x :: r => by have := bulk_one_le x; have := bulk_length r; simp only [Rows.uptoBulkAll, List.length_cons]; omega
theorem bulk_string {H : Type} {s : ByteArray} {l : List (DataW H)} (h : Rows.uptoBulkAll l ≤ 1048576) (hm : DataW.lit (.string s.data.toList) ∈ l) : s.size ≤ 1048576 := by
  have := bulk_mem hm
  simp only [Rows.uptoBulk, Array.length_toList] at this
  have : s.size = s.data.size := rfl
  omega
theorem bulk_part {H : Type} {d : DataW H} {l : List (DataW H)} (h : Rows.uptoBulkAll l ≤ 1048576) (hm : d ∈ l) : Rows.uptoBulk d ≤ 1048576 := by
  have := bulk_mem hm
  omega

theorem sized_part {H : Type} {P : Program} {ts : List TypeId} {ds : List (DataW H)} (h : (DataW.weightsEach P ts ds).all (· ≤ reachBytes) = true) {j : Nat} {t : TypeId} {d : DataW H} (ht : ts[j]? = some t) (hd : ds[j]? = some d) : ∀ x ∈ DataW.weights P t d, x ≤ 140737488351232 := by
  intro x hx
  have := List.all_eq_true.1 h _ (DataW.weights_mem_each ht hd x hx)
  have h2 : x ≤ reachBytes := by simpa using this
  have h3 : reachBytes = 140737488351232 := by decide
  omega
def IsFrame (v : Value) (x : Int × ByteArray) : Prop := v = .agg #[.int .i64 x.1, .string x.2] ∧ x.2.size ≤ 140737488351232
section
variable {H : Type} {enc : TypeId × Value → H} {w : World} {base : Nat} {spare : Nat → Bool} {held : Bool}
theorem read_frame {r : Reach} {b0 : Nat} {v : Value} {d : DataW H} {p : List MemPlace} (hv : Value.okWide Try.prog w r b0 142 v) (h : DataW.Trod enc Try.prog w base spare held 142 v d p) :
    ∃ (k : Int) (b : ByteArray), v = .agg #[.int .i64 k, .string b] ∧ d = .agg [.lit (.int .i64 k), .lit (.string b.data.toList)] := by
  obtain ⟨v0, v1, y0, y1, n, rfl, rfl, rfl, h0, h1⟩ := open_agg2 Try.underlying142 (by kernel_rfl) (by kernel_rfl) hv h
  obtain ⟨k, e0, rfl, _⟩ := DataW.trod_int Try.underlying3 h0
  obtain ⟨s, e1, rfl, _⟩ := DataW.trod_string Try.underlying9 h1
  simp only [List.cons.injEq, and_true] at e0 e1
  subst e0 e1
  exact ⟨k, s, rfl, rfl⟩
theorem open_frame_upto {r : Reach} {b0 : Nat} {v : Value} {d : DataW H} {p : List MemPlace} (hv : Value.okWide Try.prog w r b0 142 v) (h : DataW.Trod enc Try.prog w base spare held 142 v d p) (_ : ∀ x ∈ p, x.block < w.heap.size)
    (hb : Rows.uptoBulk d ≤ 1048576) : ∃ x, IsFrame v x := by
  obtain ⟨k, b, rfl, rfl⟩ := read_frame hv h
  simp only [Rows.uptoBulk, Rows.uptoBulkAll, Array.length_toList] at hb
  have : b.size = b.data.size := rfl
  exact ⟨(k, b), rfl, by simp only; omega⟩
theorem open_frame_said {r : Reach} {b0 : Nat} {v : Value} {d : DataW H} {p : List MemPlace} (hv : Value.okWide Try.prog w r b0 142 v) (h : DataW.Trod enc Try.prog w base spare held 142 v d p) (_ : ∀ x ∈ p, x.block < w.heap.size)
    (hb : ∀ x ∈ DataW.weights Try.prog 142 d, x ≤ 140737488351232) : ∃ x, IsFrame v x := by
  obtain ⟨k, b, rfl, rfl⟩ := read_frame hv h
  simp [DataW.weights, DataW.weightsEach, Try.underlying142] at hb
  exact ⟨(k, b), rfl, hb⟩
end
end Go.Proofs.Ytfncpcmaplhojaa
