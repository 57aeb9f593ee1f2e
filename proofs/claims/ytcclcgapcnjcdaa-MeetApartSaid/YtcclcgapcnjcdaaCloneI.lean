/- slices.Clone of ints. -/
import Derived.Test.YtcclcgapcnjcdaaInts
namespace Go.Proofs.Ytcclcgapcnjcdaa
open Go.ChangeShapes Go.WideShapes Go.RowKit
set_option linter.unusedVariables false
set_option linter.unusedSimpArgs false
set_option maxRecDepth 100000
set_option maxHeartbeats 4000000

theorem wpList_app_ints {ops : Array Oper} {rest : List Oper} {o : Oper} {a : Act} {Q : Exit → Act → World → Prop} (w : World) (hgd : o.guard = none) (s x : Operand)
    (ho : o.op = .call { callee := .builtin .append, args := #[s, x], argTypes := #[22, 22] })
    (B : Nat) (v : Value) (l : List Int) (hs : a.eval s = v) (hown : OwnI w B v l)
    (A : Option Addr) (m c B' : Nat) (l' : List Int) (hx : a.eval x = .slice A m c) (hr : RdI w B' A m c l')
    (hn : l.length + m ≤ 4000000) (hB : B ≤ w.heap.size)
    (h : ∀ v' w', OwnI w' B v' (l ++ l') → Below B w w' → wpList Try.prog ops Q rest (a.put o.dst v') w') :
    wpList Try.prog ops Q (o :: rest) a w := by
  obtain ⟨i0, hi, hz0, hz1, hz2⟩ := info_parts Try.info_int
  refine wpList_append_any w hgd s x 22 ho B 3 i0 _ 1 8 Try.underlying22 hi hz0 hz1 hz2 rfl (by omega) v _ _ hs hown B' A m c (ic l') hx ?_ ?_ (by simp only [maxLen]; omega) (by omega) hB ?_
  · refine ⟨by rw [ic_len, hr.1]; omega, fun h0 => ?_⟩
    obtain ⟨b, o', e, hb, hc⟩ := hr.2.2.2.2 h0
    refine ⟨_, e, hb, fun j u hj => ?_⟩
    have := hc j u hj
    by_cases h00 : j = 0
    · subst h00; simpa [Addr.add] using this
    · simpa [Addr.add, h00] using this
  · intro u hu
    unfold ic at hu
    obtain ⟨p, _, rfl⟩ := List.mem_map.1 hu
    rfl
  · intro v' w' h2 h3 h4
    refine h v' w' ?_ (below_grown h3 hB (own_ge hown))
    unfold OwnI
    have e : ic (l ++ l') = ic l ++ ic l' := by simp [ic]
    rw [e, List.length_append, ← hr.1]
    exact h2
theorem eql_nil (w : World) (a : Option Addr) (l c : Nat) : (binOp .eql 22 (.slice a l c) (.slice none 0 0)).run Try.prog w = .ok (.bool a.isNone) w := by
  simp [binOp, run_equal_slice_nil w 22 3 a l c Try.underlying22]
theorem clone_nil (w : World) (n c : Nat) :
    Calls Try.prog 18 #[.slice none n c] w fun e w' => e = .returned (.slice none 0 0) ∧ w' = w := by
  go_enter Try.func18, Try.ntmps18
  have hq := eql_nil w none n c
  go_wp2_with fail
  go_ret
  exact ⟨rfl, rfl⟩
theorem clone_some (l : List Int) (a : Addr) (n c : Nat) (w : World) (h : RdI w w.heap.size (some a) n c l) (hn : n ≤ 4000000) :
    Calls Try.prog 18 #[.slice (some a) n c] w fun e w' => ∃ v, e = .returned v ∧ OwnI w' w.heap.size v l ∧ Below w.heap.size w w' := by
  have H := Lib.hid h
  clear h
  go_enter Try.func18, Try.ntmps18
  have hq := eql_nil w (some a) n c
  have ho : OwnI (w.alloc (.cells #[] 3)) w.heap.size (.slice (some ⟨w.heap.size, 0, none⟩) 0 0) [] := World.ownsRow_made w #[] 0 (Nat.le_refl _) (by decide) rfl
  have Ho := Lib.hid ho
  have hr := H.out.alloc (Nat.le_refl _) (.cells #[] 3)
  have Hr := Lib.hid hr
  have hB : w.heap.size ≤ (w.alloc (.cells #[] 3)).heap.size := by simp
  have hn0 : ([] : List Int).length + n ≤ 4000000 := by simpa using hn
  clear ho hr
  go_wp2_with (first | (at_builtin; go_loud (refine wpList_app_ints _ rfl (.tmp 5) (.tmp 6) rfl w.heap.size _ [] rfl Ho.out (some a) n c _ l rfl Hr.out hn0 hB ?_; intro v4 w4 k1 k2)))
  go_ret
  rw [List.nil_append] at k1
  exact ⟨_, rfl, k1, ((Below.refl w.heap.size w).alloc (Nat.le_refl _) _).trans k2⟩
end Go.Proofs.Ytcclcgapcnjcdaa
