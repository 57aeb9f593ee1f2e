/- slices.Clone of parts. -/
import Derived.Test.YtfncpcmaplhojaaFilled
namespace Go.Proofs.Ytfncpcmaplhojaa
open Go.ChangeShapes Go.WideShapes Go.RowKit
set_option linter.unusedVariables false
set_option linter.unusedSimpArgs false
set_option maxRecDepth 100000
set_option maxHeartbeats 4000000

/-- append of a slice of parts to a row of the call's own -/
theorem wpList_app_partsC {ops : Array Oper} {rest : List Oper} {o : Oper} {a : Act} {Q : Exit → Act → World → Prop} (w : World) (hgd : o.guard = none) (s x : Operand)
    (ho : o.op = .call { callee := .builtin .append, args := #[s, x], argTypes := #[27, 27] })
    (B : Nat) (v : Value) (l : List Pt) (hs : a.eval s = v) (hown : OwnP w B v l)
    (A : Option Addr) (m c B' : Nat) (l' : List Pt) (hx : a.eval x = .slice A m c) (hr : RdP w B' A m c l')
    (hn : l.length + m ≤ 4000000) (hB : B ≤ w.heap.size)
    (h : ∀ v' w', OwnP w' B v' (l ++ l') → Below B w w' → wpList Try.prog ops Q rest (a.put o.dst v') w') :
    wpList Try.prog ops Q (o :: rest) a w := by
  obtain ⟨i0, hi, hz0, hz1, hz2⟩ := info_parts Try.info_part
  refine wpList_append_any w hgd s x 27 ho B 45 i0 _ 3 32 Try.underlying27 hi hz0 hz1 hz2 rfl (by omega) v _ _ hs hown B' A m c (pc l') hx ?_ ?_ (by simp only [maxLen]; omega) (by omega) hB ?_
  · refine ⟨by rw [pc_len, hr.1], fun h0 => ?_⟩
    obtain ⟨b, o', e, hb, hc⟩ := hr.2.1.2.2.2 h0
    refine ⟨_, e, hb, fun j u hj => ?_⟩
    have := hc j u hj
    by_cases h00 : j = 0
    · subst h00; simpa [Addr.add] using this
    · simpa [Addr.add, h00] using this
  · intro u hu
    unfold pc at hu
    obtain ⟨p, _, hp⟩ := List.mem_flatMap.1 hu
    simp only [pcells, List.mem_cons, List.not_mem_nil, or_false] at hp
    rcases hp with rfl | rfl | rfl <;> rfl
  · intro v' w' h2 h3 h4
    exact h v' w' (by unfold OwnP; rw [pc_append, List.length_append, ← hr.1]; exact h2) (below_grown h3 hB (own_ge hown))
theorem eqlP_nil (w : World) (a : Option Addr) (l c : Nat) : (binOp .eql 27 (.slice a l c) (.slice none 0 0)).run Try.prog w = .ok (.bool a.isNone) w := by
  simp [binOp, run_equal_slice_nil w 27 45 a l c Try.underlying27]
theorem cloneP_nil (w : World) (n c : Nat) :
    Calls Try.prog 36 #[.slice none n c] w fun e w' => e = .returned (.slice none 0 0) ∧ w' = w := by
  go_enter Try.func36, Try.ntmps36
  have hq := eqlP_nil w none n c
  go_wp2_with fail
  go_ret
  exact ⟨rfl, rfl⟩
theorem cloneP_some (l : List Pt) (a : Addr) (n c : Nat) (w : World) (h : RdP w w.heap.size (some a) n c l) (hn : n ≤ 4000000) :
    Calls Try.prog 36 #[.slice (some a) n c] w fun e w' => ∃ v, e = .returned v ∧ OwnP w' w.heap.size v l ∧ Below w.heap.size w w' := by
  have H := Lib.hid h
  clear h
  go_enter Try.func36, Try.ntmps36
  have hq := eqlP_nil w (some a) n c
  have ho : OwnP (w.alloc (.cells #[] 45)) w.heap.size (.slice (some ⟨w.heap.size, 0, none⟩) 0 0) [] := World.ownsRow_made w #[] 0 (Nat.le_refl _) (by decide) rfl
  have Ho := Lib.hid ho
  have hr := H.out.alloc (Nat.le_refl _) (.cells #[] 45)
  have Hr := Lib.hid hr
  have hB : w.heap.size ≤ (w.alloc (.cells #[] 45)).heap.size := by simp
  have hn0 : ([] : List Pt).length + n ≤ 4000000 := by simpa using hn
  clear ho hr
  go_wp2_with (first | (at_builtin; go_loud (refine wpList_app_partsC _ rfl (.tmp 5) (.tmp 6) rfl w.heap.size _ [] rfl Ho.out (some a) n c _ l rfl Hr.out hn0 hB ?_; intro v4 w4 k1 k2)))
  go_ret
  rw [List.nil_append] at k1
  exact ⟨_, rfl, k1, ((Below.refl w.heap.size w).alloc (Nat.le_refl _) _).trans k2⟩
theorem cloneP_any (l : List Pt) (A : Option Addr) (n c : Nat) (w : World) (h : RdP w w.heap.size A n c l) (hn : n ≤ 4000000) :
    Calls Try.prog 36 #[.slice A n c] w fun e w' => ∃ v, e = .returned v ∧ OwnP w' w.heap.size v l ∧ Below w.heap.size w w' := by
  cases A with
  | none =>
    have e : l = [] := by
      rw [← List.length_eq_zero_iff, ← h.1]
      by_cases h0 : 0 < n
      · obtain ⟨b, o, e, _⟩ := h.2.1.2.2.2 h0
        cases e
      · omega
    subst e
    refine (cloneP_nil w n c).mono ?_
    rintro e w' ⟨rfl, rfl⟩
    exact ⟨_, rfl, OwnP.nil _ _, Below.refl _ _⟩
  | some a => exact cloneP_some l a n c w h hn
/-- a roomy list reads as what it holds -/
theorem Room.rd {w : World} {B g n c0 : Nat} {l m : List Pt} {A : Option Addr} {w0 : World} {B0 : Nat} (h : Room w B g n (l ++ m)) (h0 : RdP w0 B0 A n c0 l) (hn : n ≤ 4398046511104) : RdP w w.heap.size (some ⟨g, 0, none⟩) n (n + 3) l := by
  obtain ⟨_, cs, hb, hs, hc⟩ := h
  refine ⟨h0.1, ⟨by omega, by unfold maxLen; omega, h0.2.1.2.2.1, fun _ => ⟨g, 0, rfl, hb.lt, fun j u hj => ?_⟩⟩, h0.2.2⟩
  rw [Nat.zero_add, hb.cell j]
  have h1 : (pc (l ++ m))[j]? = some u := by
    rw [pc_append, List.getElem?_append_left (List.getElem?_eq_some_iff.1 hj).1]
    exact hj
  rw [← hc, Array.getElem?_toList] at h1
  exact h1
theorem Room.only {w w' : World} {B g n : Nat} {l : List Pt} {S : Nat → Prop} (h : Room w B g n l) (ho : Only w w' S) (hg : ¬ S g) : Room w' B g n l := by
  obtain ⟨hB, cs, hb, hs, hc⟩ := h
  exact ⟨hB, cs, hb.only ho hg, hs, hc⟩
theorem Room.step {w w' : World} {B g n : Nat} {l : List Pt} (h : Room w B g n l) (hb : Below w.heap.size w w') : Room w' B g n l := by
  obtain ⟨hB, cs, hk, hs, hc⟩ := h
  exact ⟨hB, cs, hk.below hb hk.lt, hs, hc⟩
theorem Room.lt {w : World} {B g n : Nat} {l : List Pt} (h : Room w B g n l) : g < w.heap.size := by
  obtain ⟨hB, cs, hk, hs, hc⟩ := h
  exact hk.lt
/-- spoil a list with room -/
theorem spoil_room (p : Pt) (g n B : Nat) (l : List Pt) (w : World) (h : Room w B g n l) (hn : n ≤ 4398046511104) :
    Calls Try.prog 29 #[.slice (some ⟨g, 0, none⟩) n (n + 3), pval p] w fun e w' => e = .returned (.tuple #[]) ∧ Only w w' (fun k => k = g) := by
  obtain ⟨hB, cs, hk, hs, hc⟩ := h
  exact spoil_any p g n (n + 3) cs w hk hs (by omega) (by unfold maxLen; omega)
end Go.Proofs.Ytfncpcmaplhojaa
