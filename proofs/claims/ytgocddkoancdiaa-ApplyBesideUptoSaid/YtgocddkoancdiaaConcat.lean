/- Contracts of slices.Grow from nothing, slices.Concat of two, and the laws' helper beside. -/
import Derived.Test.YtgocddkoancdiaaNorm
import Derived.Lib.AppendZerosOnto
namespace Go.Proofs.Ytgocddkoancdiaa
open Go.ChangeShapes Go.WideShapes Go.RowKit
set_option linter.unusedVariables false
set_option linter.unusedSimpArgs false
set_option maxRecDepth 100000
set_option maxHeartbeats 4000000

theorem grow_zero (w : World) :
    Calls Try.prog 56 #[.slice none 0 0, .int .i64 0] w fun e w' => e = .returned (.slice none 0 0) ∧ w' = w := by
  go_enter Try.func56, Try.ntmps56
  go_wp2_with fail
  go_ret
  exact ⟨rfl, rfl⟩
theorem grow_some (n : Nat) (w : World) (h1 : 1 ≤ (n : Int)) (h2 : (n : Int) ≤ 4000000) :
    Calls Try.prog 56 #[.slice none 0 0, .int .i64 n] w fun e w' => ∃ v, e = .returned v ∧ OwnP w' w.heap.size v [] ∧ Below w.heap.size w w' := by
  obtain ⟨i0, hi, hz0, hz1, hz2⟩ := info_parts Try.info_part
  have hrz : ∀ ty, (Builtin.append_ #[22, 3] ty #[.slice none 0 0, .int .i64 n]).run Try.prog w =
      .ok (.slice (some ⟨w.heap.size, 0, none⟩) n (grownCap w n 0 28)) (w.drew.alloc (.cells (Builtin.zeroCells (Value.agg #[.int .i64 0, .int .i64 0, .string ⟨#[]⟩]).cells n ++ Builtin.zeroCells (Value.agg #[.int .i64 0, .int .i64 0, .string ⟨#[]⟩]).cells (grownCap w n 0 28 - n)) 28)) := fun ty => by
    have h := Lib.run_append_grow_zeros w 22 3 ty 28 i0 _ .i64 .i64 Try.underlying22 Try.underlying3 hi hz0 none 0 0 [] (run_firstCells_none w.drew i0.size 0 0 0) n (by omega) (by rw [hz1]; decide) (by omega) (by omega)
      (by rw [hz2]; omega) (growslice_fits (by omega) (by rw [hz2]; omega))
    simpa using h
  have hG := grownCap_ge w n 0 28
  have hGm := grownCap_le_maxLen w n 0 28 (by unfold maxLen; omega)
  generalize grownCap w n 0 28 = G at *
  obtain ⟨O, hO⟩ : ∃ O, Builtin.zeroCells (Value.agg #[.int .i64 0, .int .i64 0, .string ⟨#[]⟩]).cells n ++ Builtin.zeroCells (Value.agg #[.int .i64 0, .int .i64 0, .string ⟨#[]⟩]).cells (G - n) = O := ⟨_, rfl⟩
  have hOs : O.size = G * 3 := by
    rw [← hO, Array.size_append, size_zeroCells, size_zeroCells]
    show n * 3 + (G - n) * 3 = G * 3
    omega
  rw [hO] at hrz
  have hown : OwnP (w.drew.alloc (.cells O 28)) w.heap.size (.slice (some ⟨w.heap.size, 0, none⟩) 0 G) [] := by
    refine ⟨rfl, .inr ⟨w.heap.size, G, O, rfl, Nat.le_refl _, heap_alloc_new w.drew _, by simp, hGm, hOs, by simp [pc]⟩⟩
  have hb : Below w.heap.size w (w.drew.alloc (.cells O 28)) := ((Below.refl w.heap.size w).drew).alloc (Nat.le_refl _) _
  have Hown := Lib.hid hown
  have Hb := Lib.hid hb
  have hGi : (n : Int) ≤ (G : Int) := by omega
  have hG63 : G ≤ 9223372036854775807 := by unfold maxLen at hGm; omega
  clear hown hb hO hOs hi hz0 hz1 hz2
  go_enter Try.func56, Try.ntmps56
  go_wp2_with (at_builtin; refine Lib.wpList_append_run _ rfl _ _ _ _ rfl _ _ rfl rfl _ _ (hrz _) ?_)
  go_ret
  exact ⟨_, rfl, Hown.out, Hb.out⟩
theorem grow_any (n : Nat) (m : Int) (hm : m = (n : Int)) (w : World) (h2 : (n : Int) ≤ 4000000) :
    Calls Try.prog 56 #[.slice none 0 0, .int .i64 m] w fun e w' => ∃ v, e = .returned v ∧ OwnP w' w.heap.size v [] ∧ Below w.heap.size w w' := by
  subst hm
  rcases Nat.eq_zero_or_pos n with rfl | h0
  · refine (grow_zero w).mono ?_
    rintro e w' ⟨rfl, rfl⟩
    exact ⟨_, rfl, OwnP.nil _ _, Below.refl _ _⟩
  · exact grow_some n w (by omega) h2
/-- append of a slice of parts to a row of the call's own -/
theorem wpList_app_parts {ops : Array Oper} {rest : List Oper} {o : Oper} {a : Act} {Q : Exit → Act → World → Prop} (w : World) (hgd : o.guard = none) (s x : Operand)
    (ho : o.op = .call { callee := .builtin .append, args := #[s, x], argTypes := #[22, 22] })
    (B : Nat) (v : Value) (l : List Pt) (hs : a.eval s = v) (hown : OwnP w B v l)
    (A : Option Addr) (m c B' : Nat) (l' : List Pt) (hx : a.eval x = .slice A m c) (hr : RdP w B' A m c l')
    (hn : l.length + m ≤ 4000000) (hB : B ≤ w.heap.size)
    (h : ∀ v' w', OwnP w' B v' (l ++ l') → Below B w w' → wpList Try.prog ops Q rest (a.put o.dst v') w') :
    wpList Try.prog ops Q (o :: rest) a w := by
  obtain ⟨i0, hi, hz0, hz1, hz2⟩ := info_parts Try.info_part
  refine wpList_append_any w hgd s x 22 ho B 28 i0 _ 3 32 Try.underlying22 hi hz0 hz1 hz2 rfl (by omega) v _ _ hs hown B' A m c (pc l') hx ?_ ?_ (by simp only [maxLen]; omega) (by omega) hB ?_
  · refine ⟨by rw [pc_len, hr.1], fun h0 => ?_⟩
    obtain ⟨b, o', e, hb, hc⟩ := hr.2.1.2.2.2 h0
    refine ⟨_, e, hb, fun j u hj => ?_⟩
    have := hc j u hj
    by_cases h00 : j = 0
    · subst h00; simpa [Addr.add] using this
    · simpa [Addr.add, h00] using this
  · intro u hu
    unfold pc at hu
    obtain ⟨p, _, hp⟩ := List.mem_flatMap.1 hu
    simp only [pcells, List.mem_cons, List.not_mem_nil, or_false] at hp
    rcases hp with rfl | rfl | rfl <;> rfl
  · intro v' w' h2 h3 h4
    exact h v' w' (by unfold OwnP; rw [pc_append, List.length_append, ← hr.1]; exact h2) (below_grown h3 hB (own_ge hown))
theorem concat_any (a b : List Pt) (A A' : Option Addr) (n n' c c' g : Nat) (w : World) (ha : RdP w w.heap.size A n c a) (hb : RdP w w.heap.size A' n' c' b) (h1 : (n : Int) ≤ 1048576) (h2 : (n' : Int) ≤ 1048576)
    (hg0 : w.cell? ⟨g, 0, none⟩ = some (.slice A n c)) (hg1 : w.cell? ⟨g, 1, none⟩ = some (.slice A' n' c')) (hg : g < w.heap.size) :
    Calls Try.prog 47 #[.slice (some ⟨g, 0, none⟩) 2 2] w fun e w' => ∃ v, e = .returned v ∧ OwnP w' w.heap.size v (a ++ b) ∧ Below w.heap.size w w' := by
  have Ha := Lib.hid ha
  have Hb := Lib.hid hb
  have hna : n = a.length := ha.1
  have Hna := Lib.hid hna
  clear ha hb hna
  go_enter Try.func47, Try.ntmps47
  go_wp2_with fail
  refine wp_loop_rounds 3 ?_
  rw [rounds_succ]
  go_wp2_with fail
  rw [rounds_succ]
  go_wp2_with fail
  rw [rounds_succ]
  go_wp2_with fail
  refine (grow_any (n + n') _ (by omega) _ (by omega)).mono ?_
  rintro e w1 ⟨v1, rfl, ho1, hb1⟩
  have Ho1 := Lib.hid ho1
  have hra := Ha.out.step hb1
  have hrb := Hb.out.step hb1
  have hc0 : w1.cell? ⟨g, 0, none⟩ = some (.slice A n c) := (hb1.cell (by exact hg)).trans hg0
  have hc1 : w1.cell? ⟨g, 1, none⟩ = some (.slice A' n' c') := (hb1.cell (by exact hg)).trans hg1
  have hsz1 := hb1.size
  have Hra := Lib.hid hra
  have Hrb := Lib.hid hrb
  have hl1 : ([] : List Pt).length + n ≤ 4000000 := by simp; omega
  obtain ⟨A1, c1, rfl⟩ := ho1.form_ (n := 0) rfl
  clear ho1 hra hrb hg0 hg1
  go_wp2_with fail
  refine wp_loop_rounds 3 ?_
  rw [rounds_succ]
  go_wp2_with (first | (at_builtin; refine wpList_app_parts _ rfl (.tmp 31) (.tmp 32) rfl w.heap.size _ [] rfl Ho1.out A n c _ a rfl Hra.out hl1 hsz1 ?_; intro v2 w2 k1 k2; obtain ⟨A2, c2, rfl⟩ := k1.form_ (n := n) (by rw [List.nil_append]; exact Hna.out.symm)))
  rw [List.nil_append] at k1
  have Ho2 := Lib.hid k1
  have hw2 := hb1.trans k2
  have hsz2 := hw2.size
  have hl2 : a.length + n' ≤ 4000000 := by rw [← Hna.out]; omega
  have Hrb2 : Hid (RdP w2 w.heap.size A' n' c' b) := Lib.hid (Hb.out.below hw2)
  have hd1 : w2.cell? ⟨g, 1, none⟩ = some (.slice A' n' c') := (k2.cell (by exact hg)).trans hc1
  clear k1 k2 hc0 hc1 hb1
  rw [rounds_succ]
  go_wp2_with (first | (at_builtin; refine wpList_app_parts _ rfl (.tmp 31) (.tmp 32) rfl w.heap.size _ a rfl Ho2.out A' n' c' _ b rfl Hrb2.out hl2 hsz2 ?_; intro v3 w3 k1 k2; obtain ⟨A3, c3, rfl⟩ := k1.form_ (n := a.length + b.length) (by rw [List.length_append])))
  have Ho3 := Lib.hid k1
  have hw3 := hw2.trans k2
  clear k1 k2
  rw [rounds_succ]
  go_wp2_with fail
  go_ret
  exact ⟨_, rfl, Ho3.out, hw3⟩
theorem beside_any (a b : List Pt) (A A' : Option Addr) (n n' c c' : Nat) (w : World) (ha : RdP w w.heap.size A n c a) (hb : RdP w w.heap.size A' n' c' b) (h1 : (n : Int) ≤ 1048576) (h2 : (n' : Int) ≤ 1048576) :
    Calls Try.prog 25 #[.slice A n c, .slice A' n' c'] w fun e w' => ∃ A1 c1, e = .returned (.tuple #[.slice A1 (normL (a ++ b)).length c1, .int .i64 (normE (a ++ b))]) ∧ RdP w' w'.heap.size A1 (normL (a ++ b)).length c1 (normL (a ++ b)) ∧ Below w.heap.size w w' := by
  have Ha := Lib.hid (ha.stepA (.cells #[.slice A n c, .slice A' n' c'] 22))
  have Hb := Lib.hid (hb.stepA (.cells #[.slice A n c, .slice A' n' c'] 22))
  have hblk := Blk.new w 22 #[.slice A n c, .slice A' n' c']
  have hg0 := hblk.cell 0
  have hg1 := hblk.cell 1
  have hgl := hblk.lt
  have hcall := concat_any a b A A' n n' c c' w.heap.size _ Ha.out Hb.out h1 h2 hg0 hg1 hgl
  have hw0 := (Below.refl w.heap.size w).alloc (Nat.le_refl _) (.cells #[.slice A n c, .slice A' n' c'] 22)
  have Htx : Hid (∀ p ∈ a ++ b, p.2.2.size ≤ 140737488351232) := Lib.hid fun p hp => by
    rcases List.mem_append.1 hp with h | h
    · exact ha.2.2 p h
    · exact hb.2.2 p h
  obtain ⟨L, hL⟩ : ∃ L, a ++ b = L := ⟨_, rfl⟩
  rw [hL] at hcall Htx ⊢
  have Hcall := Lib.hid hcall
  clear hcall ha hb hblk hg0 hg1 hgl hL
  go_enter Try.func25, Try.ntmps25
  go_wp2_with fail
  refine Hcall.out.mono ?_
  rintro e w1 ⟨v, rfl, ho, hb1⟩
  obtain ⟨A1, c1, rfl, hr⟩ := ho.rd Htx.out
  have Hr := Lib.hid hr
  have hw1 := hw0.trans (hb1.mono hw0.size)
  clear ho hr hb1
  go_wp2_with fail
  refine (norm_rd L A1 _ c1 _ _ Hr.out (Nat.le_refl _)).mono ?_
  rintro e w2 ⟨A2, c2, rfl, hr2, hb2⟩
  have hw2 := hw1.trans (hb2.mono hw1.size)
  have Hr2 := Lib.hid hr2
  clear hr2 hb2
  go_wp2_with fail
  go_ret2
  exact ⟨_, _, rfl, Hr2.out, hw2⟩
end Go.Proofs.Ytgocddkoancdiaa
