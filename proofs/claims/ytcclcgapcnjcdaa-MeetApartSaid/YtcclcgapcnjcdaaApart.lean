/- Contracts of the laws' helper places, and of MeetApart's closure. -/
import Derived.Test.YtcclcgapcnjcdaaBlame
import Derived.Test.YtcclcgapcnjcdaaApartLaw
import Derived.Test.YtcclcgapcnjcdaaOpenParts
namespace Go.Proofs.Ytcclcgapcnjcdaa
open Go.ChangeShapes Go.WideShapes Go.RowKit
set_option linter.unusedVariables false
set_option linter.unusedSimpArgs false
set_option maxRecDepth 100000
set_option maxHeartbeats 4000000

theorem Blk.step {w w' : World} {g : Nat} {t : TypeId} {cs : Array Value} (h : Blk w g t cs) (hb : Below w.heap.size w w') : Blk w' g t cs := h.below hb h.lt
theorem Blk.stepA {w : World} {g : Nat} {t : TypeId} {cs : Array Value} (h : Blk w g t cs) (o : Obj) : Blk (w.alloc o) g t cs := h.alloc o
theorem wpList_app_intL {ops : Array Oper} {rest : List Oper} {o : Oper} {a : Act} {Q : Exit → Act → World → Prop} (w : World) (u : Int) (hgd : o.guard = none) (s x : Operand)
    (ho : o.op = .call { callee := .builtin .append, args := #[s, x], argTypes := #[22, 22] })
    (B : Nat) (v : Value) (l : List Int) (hs : a.eval s = v) (hown : OwnI (w.alloc (.cells #[.int .i64 u] 3)) B v l)
    (c g : Nat) (hg : w.heap.size = g) (hx : a.eval x = .slice (some ⟨g, 0, none⟩) 1 c)
    (hn : l.length ≤ 4398046511104) (hB : B ≤ w.heap.size)
    (h : ∀ v' w', OwnI w' B v' (l ++ [u]) → Below B (w.alloc (.cells #[.int .i64 u] 3)) w' → (w.alloc (.cells #[.int .i64 u] 3)).grownBy w' v.ownBlock → wpList Try.prog ops Q rest (a.put o.dst v') w') :
    wpList Try.prog ops Q (o :: rest) a (w.alloc (.cells #[.int .i64 u] 3)) := by
  subst hg
  obtain ⟨i0, hi, hz0, hz1, hz2⟩ := info_parts Try.info_int
  have hr : RdI (w.alloc (.cells #[.int .i64 u] 3)) (w.heap.size + 1) (some ⟨w.heap.size, 0, none⟩) 1 1 [u] := RdI.built w #[.int .i64 u] [u] 1 rfl rfl (by decide)
  have hB2 : B ≤ (w.alloc (.cells #[.int .i64 u] 3)).heap.size := by simp; omega
  refine wpList_append_any (w.alloc (.cells #[.int .i64 u] 3)) hgd s x 22 ho B 3 i0 _ 1 8 Try.underlying22 hi hz0 hz1 hz2 rfl (by omega) v _ _ hs hown (w.heap.size + 1) _ 1 c (ic [u]) hx ?_ ?_ (by simp only [maxLen]; omega) (by omega) hB2 ?_
  · refine ⟨by simp [ic], fun h0 => ?_⟩
    obtain ⟨b, o', e, hb, hc⟩ := hr.2.2.2.2 h0
    refine ⟨_, e, hb, fun j u hj => ?_⟩
    have := hc j u hj
    by_cases h00 : j = 0
    · subst h00; simpa [Addr.add] using this
    · simpa [Addr.add, h00] using this
  · intro u hu
    unfold ic at hu
    obtain ⟨p, _, rfl⟩ := List.mem_map.1 hu
    rfl
  · intro v' w' h2 h3 h4
    refine h v' w' ?_ (below_grown h3 hB2 (own_ge hown)) h3
    unfold OwnI
    have e : ic (l ++ [u]) = ic l ++ ic [u] := by simp [ic]
    rw [e, List.length_append]
    exact h2
theorem places_any (l : List Pt) (A : Option Addr) (n c : Nat) (w : World) (h : RdP w w.heap.size A n c l) (hn : n ≤ 4398046511104) :
    Calls Try.prog 30 #[.slice A n c] w fun e w' => ∃ A1 n1 c1, e = .returned (.slice A1 n1 c1) ∧ RdI w' w'.heap.size A1 n1 c1 (plA 0 l) ∧ Below w.heap.size w w' := by
  have hle := h.le
  have H := Lib.hid h
  have Hst : Hid (([] : List Int) ++ plA 0 (l.drop 0) = plA 0 l) := Lib.hid rfl
  clear h
  go_enter Try.func30, Try.ntmps30
  go_wp2_with fail
  go_loopw [3, 4, 6, 9] (fun ov av pv iv wr => ∃ (k : Nat) (a : Int) (acc : List Int), k ≤ n ∧ iv = .int .i64 k ∧ av = .int .i64 a ∧ acc.length ≤ k ∧ Hid (OwnI wr w.heap.size ov acc) ∧ Hid (acc ++ plA a (l.drop k) = plA 0 l) ∧ Below w.heap.size w wr) (fun _ _ _ i _ => n - (intOf i).toNat)
  case atStart => exact ⟨0, 0, [], by omega, rfl, rfl, by simp, Lib.hid (OwnI.nil _ _), Hst, Below.refl _ _⟩
  case round =>
    obtain ⟨k, a, acc, hk, rfl, rfl, hal, hown, hst, hbw⟩ := hrel
    by_cases hlt : k < n
    · have hkl : k < l.length := by have := H.out.1; omega
      obtain ⟨b6, o6, rfl, hb6, p0, p1, p2⟩ := (H.out.below hbw).at_ k hlt
      have hdr : l.drop k = l[k] :: l.drop (k + 1) := List.drop_eq_getElem_cons hkl
      rw [hdr] at hst
      obtain ⟨p, hp⟩ : ∃ p, p = l[k] := ⟨_, rfl⟩
      rw [← hp] at hst p0 p1 p2
      clear hp hdr
      obtain ⟨kd, m, t⟩ := p
      simp only at p0 p1 p2
      have hk0 : (0 : Int) ≤ (k : Int) := by omega
      have hkn : (k : Int) < (n : Int) := by omega
      have hws := hbw.size
      have hgl : b6 < wr.heap.size := by omega
      have hw7 := hbw.alloc hbw.size (.cells #[.int .i64 kd, .int .i64 m, .string t] 56)
      by_cases hkd : kd = 2
      · subst hkd
        have Hst2 : Hid ((acc ++ [a]) ++ plA (wrap64 (a + m)) (l.drop (k + 1)) = plA 0 l) := Lib.hid (by have h1 := hst.out; simp only [plA, if_true] at h1; rw [List.append_assoc]; exact h1)
        have hown' : Hid (OwnI ((wr.alloc (.cells #[.int .i64 2, .int .i64 m, .string t] 56)).alloc (.cells #[.int .i64 a] 3)) w.heap.size _ acc) := Lib.hid (World.ownsRow.alloc (World.ownsRow.alloc hown.out _) _)
        have hcells := (Blk.new wr 56 #[.int .i64 2, .int .i64 m, .string t]).alloc (.cells #[.int .i64 a] 3)
        have Hcells := Lib.hid hcells
        have hal2 : acc.length ≤ 4398046511104 := by omega
        have hB8 : w.heap.size ≤ (wr.alloc (.cells #[.int .i64 2, .int .i64 m, .string t] 56)).heap.size := hw7.size
        have hw8 := hw7.alloc hw7.size (.cells #[.int .i64 a] 3)
        clear hst hcells
        go_wp2_with (first | (at_builtin; go_loud (refine wpList_app_intL (wr.alloc (.cells #[.int .i64 2, .int .i64 m, .string t] 56)) a rfl (.tmp 16) (.tmp 18) rfl w.heap.size _ acc rfl hown'.out 1 (wr.heap.size + 1) (by simp) rfl hal2 hB8 ?_; intro v8 w8 k1 k2 k3; have p81 := (Hcells.out.grown k3 (Ne.symm (own_blk_ne hown'.out Hcells.out (by decide)))).cell 1; have l81 := (Hcells.out.grown k3 (Ne.symm (own_blk_ne hown'.out Hcells.out (by decide)))).lt)))
        have hw9 := hw8.trans k2
        have K1 := Lib.hid k1
        clear k1 k3 p0 p1 p2
        go_roundw
        case rel => exact ⟨k + 1, wrap64 (a + m), acc ++ [a], by omega, by go_num, rfl, by rw [List.length_append, List.length_singleton]; omega, K1, Hst2, hw9⟩
        case measure => simp [intOf]; omega
      · have hkd' : (kd == 2) = false := by simpa using hkd
        have Hst2 : Hid (acc ++ plA (wrap64 (a + m)) (l.drop (k + 1)) = plA 0 l) := Lib.hid (by have h1 := hst.out; simp only [plA] at h1; rw [if_neg hkd] at h1; exact h1)
        have hown' : Hid (OwnI (wr.alloc (.cells #[.int .i64 kd, .int .i64 m, .string t] 56)) w.heap.size _ acc) := Lib.hid (World.ownsRow.alloc hown.out _)
        clear hst hkd
        go_wp2_with fail
        go_roundw
        case rel => exact ⟨k + 1, wrap64 (a + m), acc, by omega, by go_num, rfl, by omega, hown', Hst2, hw7⟩
        case measure => simp [intOf]; omega
    · have hkn : decide (k < n) = false := by simpa using hlt
      have h1 := hst.out
      rw [List.drop_eq_nil_of_le (by have := H.out.1; omega)] at h1
      have hacc : acc = plA 0 l := by simpa [plA] using h1
      obtain ⟨A9, c9, hv9, hr9⟩ := hown.out.rd
      rw [hacc] at hr9
      have Hr9 := Lib.hid hr9
      subst hv9
      clear hst h1 hown hr9
      go_wp2_with fail
      go_ret
      exact ⟨_, _, _, rfl, by rw [hacc]; exact Hr9.out, hbw⟩
end Go.Proofs.Ytcclcgapcnjcdaa
