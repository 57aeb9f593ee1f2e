/- An archive beside a box that was made behind its beginning: what it does leaves the box as it is. -/
import Derived.Test.YtmnnaemcjmiplaaK32
namespace Go.Proofs.Ytmnnaemcjmiplaa
open Go.ChangeShapes Go.WideShapes Go.RowKit
set_option linter.unusedVariables false
set_option linter.unusedSimpArgs false
set_option maxRecDepth 100000
set_option maxHeartbeats 4000000

def ShX (w : World) (B gw : Nat) (t : TypeId) (cs : Array Value) (q : Nat) (s : Sh) (m : Option Mv) (g : Nat) : Prop :=
  ∃ (F : Nat → Prop) (b : Nat) (tN : List (Nat × Nat)), ShG w F q s m g b tN ∧ ¬ F gw ∧ (∀ k, F k → B ≤ k ∧ k < w.heap.size) ∧ Blk w gw t cs
section
variable {w w' : World} {B gw q g : Nat} {t : TypeId} {cs : Array Value} {s : Sh} {m : Option Mv}
theorem ShX.below (h : ShX w B gw t cs q s m g) (hb : Below w.heap.size w w') : ShX w' B gw t cs q s m g := by
  obtain ⟨F, b, tN, h1, h2, h3, h4⟩ := h
  exact ⟨F, b, tN, h1.below hb, h2, fun k hk => ⟨(h3 k hk).1, Nat.lt_of_lt_of_le (h3 k hk).2 hb.size⟩, h4.below hb h4.lt⟩
theorem ShX.blk (h : ShX w B gw t cs q s m g) : Blk w gw t cs := by
  obtain ⟨F, b, tN, h1, h2, h3, h4⟩ := h
  exact h4
theorem ShX.sh (h : ShX w B gw t cs q s m g) : ShB w 0 q s m g := by
  obtain ⟨F, b, tN, h1, h2, h3, h4⟩ := h
  exact ShB.of h1 (fun _ _ => Nat.zero_le _)
theorem ShX.of {Z : Nat} {b : Nat} {tN : List (Nat × Nat)} (h : ShG w (fun k => B ≤ k ∧ k < Z) q s m g b tN) (hk : Blk w gw t cs) (hZ : Z ≤ gw) : ShX w B gw t cs q s m g :=
  ⟨_, b, tN, h, fun hh => by have hh : B ≤ gw ∧ gw < Z := hh; omega, fun k hk => ⟨hk.1, h.mem.lt k hk⟩, hk⟩
theorem ShX.turn {F : Nat → Prop} {b : Nat} {tN : List (Nat × Nat)} {s' : Sh} {m' : Option Mv} {g' : Nat} (hB : B ≤ w.heap.size) (h2 : ¬ F gw) (h3 : ∀ k, F k → B ≤ k ∧ k < w.heap.size) (h4 : Blk w gw t cs) (h : ShG w' (grow F w w') q s' m' g' b tN) (ho : Only w w' F) : ShX w' B gw t cs q s' m' g' := by
  refine ⟨_, b, tN, h, ?_, ?_, h4.only ho h2⟩
  · rintro (hh | hh)
    · exact h2 hh
    · have := h4.lt; omega
  · rintro k (hk | hk)
    · exact ⟨(h3 k hk).1, Nat.lt_of_lt_of_le (h3 k hk).2 ho.2.2.2.1⟩
    · exact ⟨by omega, hk.2⟩
end
theorem StepR.toB {w : World} {F : Nat → Prop} {q : Nat} {s s' : Sh} {m m' : Option Mv} {g g' b b' : Nat} {tN : List (Nat × Nat)} (h : ShG w F q s m g b tN) (hr : StepR s m g b s' m' g' b') : StepB s m g s' m' g' := by
  rcases hr with ⟨a1, a2, a3, a4, a5, a6, a7, a8, a9⟩ | ⟨fl, cp, wh, a1, a2, a3, a4, a5, a6, a7, a8⟩ | ⟨fl, cp, k, good, a1, a2, a3, a4, a5, a6, a7, a8, a9, a10, a11, a12⟩
  · exact .inl ⟨a1, a2, a3, a4, a5, a6, a7, a8⟩
  · exact .inr (.inl ⟨fl, cp, wh, a1, a2, a3, a4, a5, a6, a8⟩)
  · refine .inr (.inr ⟨fl, cp, k, a1, a2, a3, by rw [h.inv.log.eb]; exact a4, a5, a6, a7, ?_, ?_, ?_, ?_, a9, a10, a11⟩)
    · rw [a8, a4]
      show ((b + k : Nat) : Int) = _
      omega
    · rw [a8]; rfl
    · rw [a8]; rfl
    · rw [a8]; exact h.inv.log.move_tb k a5 good
section
variable {B gw : Nat} {t : TypeId} {cs : Array Value}
theorem sstep_X (q : Nat) (s : Sh) (m : Option Mv) (g : Nat) (w : World) (h : ShX w B gw t cs q s m g) (hB : B ≤ w.heap.size) (hg2 : g + 2 ≤ 2147483647) (hgo : m ≠ none ∨ s.old = true) :
    Calls Try.prog 26 #[.pointer (some ⟨q, 0, none⟩)] w fun e w' => e = .returned (.bool true) ∧ ∃ s' m' g', ShX w' B gw t cs q s' m' g' ∧ Below B w w' ∧ StepB s m g s' m' g' := by
  obtain ⟨F, b, tN, h1, h2, h3, h4⟩ := h
  refine (sstep_M q s m _ g b tN w h1 hg2 hgo).mono ?_
  rintro e w' ⟨rfl, s', m', g', b', tN', h', oo, hr⟩
  exact ⟨rfl, s', m', g', ShX.turn hB h2 h3 h4 h' oo, oo.below hB (fun k hk => (h3 k hk).1), StepR.toB h1 hr⟩
theorem skeep_X (q : Nat) (s : Sh) (g : Nat) (r : Int) (k : Nat) (w : World) (h : ShX w B gw t cs q s none g) (hB : B ≤ w.heap.size) (ho : s.old = false) (hrk : r = s.log.base + (k : Int)) (hk : k ≤ s.log.revs.length) :
    Calls Try.prog 24 #[.pointer (some ⟨q, 0, none⟩), .int .i64 r] w fun e w' => e = .returned (.int .i64 0) ∧ ShX w' B gw t cs q s (some (r, -1, false)) g ∧ Below B w w' := by
  obtain ⟨F, b, tN, h1, h2, h3, h4⟩ := h
  refine (skeep_M q s _ g b tN r k w h1 ho hrk hk).mono ?_
  rintro e w' ⟨rfl, h', oo⟩
  exact ⟨rfl, ShX.turn hB h2 h3 h4 h' oo, oo.below hB (fun k hk => (h3 k hk).1)⟩
theorem ssync_X (q : Nat) (s : Sh) (m : Option Mv) (g : Nat) (w : World) (h : ShX w B gw t cs q s m g) (hB : B ≤ w.heap.size) :
    Calls Try.prog 23 #[.pointer (some ⟨q, 0, none⟩)] w fun e w' => e = .returned (.tuple #[]) ∧ ShX w' B gw t cs q (syncG s m) m g ∧ Below B w w' := by
  obtain ⟨F, b, tN, h1, h2, h3, h4⟩ := h
  refine (ssync_G q s m _ g b tN w h1).mono ?_
  rintro e w' ⟨rfl, h', oo⟩
  exact ⟨rfl, ShX.turn hB h2 h3 h4 h' oo, oo.below hB (fun k hk => (h3 k hk).1)⟩
end
/-- while there is but one move -/
def OneX (m : Option Mv) (g : Nat) : Prop := (m ≠ none → g = 1) ∧ g ≤ 2
theorem OneX.step {s s' : Sh} {m m' : Option Mv} {g g' : Nat} (hj : OneX m g) (hs : StepB s m g s' m' g') : OneX m' g' := by
  rcases hs with ⟨rfl, _, rfl, _, _, _, _, rfl⟩ | ⟨fl, cp, wh, rfl, _, _, _, _, rfl, _⟩ | ⟨fl, cp, k, rfl, _, _, _, _, rfl, _, _, _, _, _, _, _, rfl⟩
  · exact hj
  · exact ⟨fun _ => hj.1 (by simp), hj.2⟩
  · have := hj.1 (by simp)
    exact ⟨fun h => absurd rfl h, by omega⟩
/-- a step leaves the table and the head -/
theorem StepB.same {s s' : Sh} {m m' : Option Mv} {g g' : Nat} (hs : StepB s m g s' m' g') : s'.log.table = s.log.table ∧ s'.log.base + (s'.log.revs.length : Int) = s.log.base + (s.log.revs.length : Int) := by
  rcases hs with ⟨_, _, _, _, e, _⟩ | ⟨_, _, _, _, e, _⟩ | ⟨fl, cp, k, _, _, _, e1, e2, _, _, e3, _, e4, e5, _⟩
  · rw [e]; exact ⟨rfl, rfl⟩
  · rw [e]; exact ⟨rfl, rfl⟩
  · refine ⟨e5, ?_⟩
    rw [e3, e4, e1, List.length_drop]
    omega
end Go.Proofs.Ytmnnaemcjmiplaa
