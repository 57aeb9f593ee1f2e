/- An archive and a list of texts beside it in memory. -/
import Derived.Test.YtfncpcmaplhojaaK31
namespace Go.Proofs.Ytfncpcmaplhojaa
open Go.ChangeShapes Go.WideShapes Go.RowKit
set_option linter.unusedVariables false
set_option linter.unusedSimpArgs false
set_option maxRecDepth 100000
set_option maxHeartbeats 4000000

theorem wpList_app_strF {ops : Array Oper} {rest : List Oper} {o : Oper} {a : Act} {Q : Exit → Act → World → Prop} (w : World) (hgd : o.guard = none) (s x : Operand)
    (ho : o.op = .call { callee := .builtin .append, args := #[s, x], argTypes := #[100, 100] })
    (B : Nat) (v : Value) (l : List ByteArray) (hs : a.eval s = v) (hown : OwnS w B v l)
    (u : ByteArray) (c : Nat) (hx : a.eval x = .slice (some ⟨w.heap.size, 0, none⟩) 1 c)
    (hn : l.length ≤ 100000000) (hB : B ≤ w.heap.size)
    (h : ∀ v' w', OwnS w' B v' (l ++ [u]) → Below B w w' → w.grownBy w' v.ownBlock → (v'.ownBlock = v.ownBlock ∨ v'.ownBlock = some (w.heap.size + 1)) → wpList Try.prog ops Q rest (a.put o.dst v') w') :
    wpList Try.prog ops Q (o :: rest) a (w.alloc (.cells #[.string u] 9)) := by
  obtain ⟨i0, hi, hz0, hz1, hz2⟩ := info_parts Try.info_string
  refine wpList_app1 w hgd s x 100 ho B 9 i0 _ 1 16 Try.underlying100 hi hz0 hz1 hz2 rfl (by omega) (by omega) v _ _ hs hown _ c hx rfl (by simp [Value.oneCell']) hn hB ?_
  intro v' w' h1 h2 h3 h4
  exact h v' w' (by unfold OwnS; rw [List.map_append, List.length_append]; exact h1) h2 h3 h4
theorem StepR.toB {s s' : Sh} {m m' : Option Mv} {g b g' b' : Nat} {tN : List (Nat × Nat)} (hr : StepR s m g b s' m' g' b') (hi : ShI s m g b tN) : StepB s m g s' m' g' := by
  rcases hr with ⟨a1, a2, a3, a4, a5, a6, a7, a8, a9⟩ | ⟨fl, cp, wh, a1, a2, a3, a4, a5, a6, a7, a8⟩ | ⟨fl, cp, k, good, a1, a2, a3, a4, a5, a6, a7, a8, a9, a10, a11, a12⟩
  · exact .inl ⟨a1, a2, a3, a4, a5, a6, a7, a8⟩
  · exact .inr (.inl ⟨fl, cp, wh, a1, a2, a3, a4, a5, a6, a8⟩)
  · refine .inr (.inr ⟨fl, cp, k, a1, a2, a3, by rw [hi.log.eb]; exact a4, a5, a6, a7, ?_, ?_, ?_, ?_, a9, a10, a11⟩)
    · rw [a8, a4]
      show ((b + k : Nat) : Int) = _
      omega
    · rw [a8]; rfl
    · rw [a8]; rfl
    · rw [a8]; exact hi.log.move_tb k a5 good
/-- an archive from B on, and a list of texts of the call's own -/
def StM (w : World) (B q : Nat) (s : Sh) (m : Option Mv) (g : Nat) (tv : Value) (T : List ByteArray) : Prop :=
  ∃ (F : Nat → Prop) (b : Nat) (tN : List (Nat × Nat)), ShG w F q s m g b tN ∧ (∀ k, F k → B ≤ k) ∧ OwnS w B tv T ∧ ∀ k, tv.ownBlock = some k → ¬ F k
section
variable {w w' : World} {B q g : Nat} {s : Sh} {m : Option Mv} {tv : Value} {T : List ByteArray}
theorem StM.below (h : StM w B q s m g tv T) (hb : Below w.heap.size w w') : StM w' B q s m g tv T := by
  obtain ⟨F, b, tN, h1, h2, h3, h4⟩ := h
  exact ⟨F, b, tN, h1.below hb, h2, own_below h3 hb, h4⟩
theorem StM.sh (h : StM w B q s m g tv T) : ShB w B q s m g := by
  obtain ⟨F, b, tN, h1, h2, h3, h4⟩ := h
  exact ShB.of h1 h2
theorem StM.start (h : ShB w B q s m g) : StM w B q s m g (.slice none 0 0) [] := by
  obtain ⟨b, tN, h⟩ := h
  exact ⟨_, b, tN, h, fun k hk => hk.1, World.ownsRow_nil _ _ _ _, fun k hk => by simp [Value.ownBlock] at hk⟩
theorem StM.own (h : StM w B q s m g tv T) : OwnS w B tv T := by obtain ⟨F, b, tN, h1, h2, h3, h4⟩ := h; exact h3
theorem StM.app {v' : Value} {T' : List ByteArray} (h : StM w B q s m g tv T) (ho : OwnS w' B v' T') (hg : w.grownBy w' tv.ownBlock) (hn : v'.ownBlock = tv.ownBlock ∨ v'.ownBlock = some (w.heap.size + 1)) : StM w' B q s m g v' T' := by
  obtain ⟨F, b, tN, h1, h2, h3, h4⟩ := h
  refine ⟨F, b, tN, ⟨h1.mem.only (Only.of_grown hg) (fun k hk hs => h4 k hs hk), h1.inv⟩, h2, ho, fun k hk hf => ?_⟩
  rcases hn with hn | hn
  · exact h4 k (hn ▸ hk) hf
  · rw [hn] at hk
    injection hk with hk
    have := h1.mem.lt k hf
    omega
theorem StM.turn {F : Nat → Prop} {s' : Sh} {m' : Option Mv} {g' b' : Nat} {tN' : List (Nat × Nat)} (hB : B ≤ w.heap.size) (h2 : ∀ k, F k → B ≤ k) (h3 : OwnS w B tv T) (h4 : ∀ k, tv.ownBlock = some k → ¬ F k) (h' : ShG w' (grow F w w') q s' m' g' b' tN') (oo : Only w w' F) : StM w' B q s' m' g' tv T ∧ Below B w w' := by
  refine ⟨⟨_, b', tN', h', fun k hk => ?_, own_only h3 oo h4, fun k hk hf => ?_⟩, oo.below hB h2⟩
  · rcases hk with hk | hk
    · exact h2 k hk
    · omega
  · rcases hf with hf | hf
    · exact h4 k hk hf
    · have := own_lt h3 k hk; omega
theorem StM.step (h : StM w B q s m g tv T) (hB : B ≤ w.heap.size) (hg2 : g + 2 ≤ 2147483647) (hgo : m ≠ none ∨ s.old = true) :
    Calls Try.prog 51 #[.pointer (some ⟨q, 0, none⟩)] w fun e w' => e = .returned (.bool true) ∧ ∃ s' m' g', StM w' B q s' m' g' tv T ∧ Below B w w' ∧ StepB s m g s' m' g' := by
  obtain ⟨F, b, tN, h1, h2, h3, h4⟩ := h
  refine (sstep_M q s m F g b tN w h1 hg2 hgo).mono ?_
  rintro e w' ⟨rfl, s', m', g', b', tN', h', oo, hr⟩
  obtain ⟨x1, x2⟩ := StM.turn hB h2 h3 h4 h' oo
  exact ⟨rfl, s', m', g', x1, x2, hr.toB h1.inv⟩
theorem StM.add (h : StM w B q s m g tv T) (hB : B ≤ w.heap.size) (a c : Int) (d : List Pt) (A : Option Addr) (n cc : Nat) (hd : RdP w w.heap.size A n cc d) :
    Calls Try.prog 47 #[.pointer (some ⟨q, 0, none⟩), .agg #[.int .i64 a, .int .i64 c, .slice A n cc]] w fun e w' =>
      e = .returned (.tuple #[.int .i64 (if nextE s.log s.text.size (a, c, d) = 0 then s.log.base + (s.log.revs.length + 1 : Nat) else 0), .int .i64 (nextE s.log s.text.size (a, c, d))]) ∧ StM w' B q (addG s m (a, c, d)) m g tv T ∧ Below B w w' := by
  obtain ⟨F, b, tN, h1, h2, h3, h4⟩ := h
  refine (sadd_G q s m F g b tN a c d A n cc w h1 hd).mono ?_
  rintro e w' ⟨rfl, h', oo⟩
  exact ⟨rfl, StM.turn hB h2 h3 h4 h' oo⟩
theorem StM.keep (h : StM w B q s none g tv T) (hB : B ≤ w.heap.size) (ho : s.old = false) (r : Int) (k : Nat) (hrk : r = s.log.base + (k : Int)) (hk : k ≤ s.log.revs.length) :
    Calls Try.prog 50 #[.pointer (some ⟨q, 0, none⟩), .int .i64 r] w fun e w' => e = .returned (.int .i64 0) ∧ StM w' B q s (some (r, -1, false)) g tv T ∧ Below B w w' := by
  obtain ⟨F, b, tN, h1, h2, h3, h4⟩ := h
  refine (skeep_M q s F g b tN r k w h1 ho hrk hk).mono ?_
  rintro e w' ⟨rfl, h', oo⟩
  exact ⟨rfl, StM.turn hB h2 h3 h4 h' oo⟩
end
/-- the texts that have been told are those that there are -/
def StT (s : Sh) (T : List ByteArray) : Prop := ∃ b : Nat, s.log.base = (b : Int) ∧ T.length = b + s.log.revs.length + 1 ∧ ∀ i, i ≤ s.log.revs.length → T[b + i]? = some (txt s.log.text s.log.revs i)
theorem StT.step {s s' : Sh} {m m' : Option Mv} {g g' : Nat} {T : List ByteArray} (h : StT s T) (hs : StepB s m g s' m' g') : StT s' T := by
  obtain ⟨b, h1, h2, h3⟩ := h
  rcases hs with ⟨_, _, _, _, e, _⟩ | ⟨f, cp, wh, _, e, _⟩ | ⟨f, cp, k, _, _, _, e1, e2, _, _, e3, e4, e5, _⟩
  · rw [StT, e]; exact ⟨b, h1, h2, h3⟩
  · rw [StT, e]; exact ⟨b, h1, h2, h3⟩
  · rw [StT, e3, e4, e5]
    refine ⟨b + k, by omega, by rw [List.length_drop]; omega, fun i hi => ?_⟩
    rw [List.length_drop] at hi
    rw [txt_drop, Nat.add_assoc]
    exact h3 (k + i) (by omega)
theorem StT.add {s : Sh} {m : Option Mv} {T : List ByteArray} (h : StT s T) (r : Rv) (hn : nextE s.log s.text.size r = 0) : StT (addG s m r) (T ++ [txt (addG s m r).log.text (addG s m r).log.revs (s.log.revs.length + 1)]) := by
  obtain ⟨b, h1, h2, h3⟩ := h
  have e1 : (addG s m r).log = addL s.log r := by unfold addG; rw [if_pos hn]; split <;> rfl
  rw [StT, e1]
  refine ⟨b, h1, ?_, fun i hi => ?_⟩
  · show (T ++ [_]).length = b + (s.log.revs ++ [r]).length + 1
    rw [List.length_append, List.length_append, h2]; rfl
  · have hi : i ≤ s.log.revs.length + 1 := by
      have : i ≤ (s.log.revs ++ [r]).length := hi
      simpa using this
    by_cases he : i = s.log.revs.length + 1
    · subst he
      rw [List.getElem?_append_right (by omega), show b + (s.log.revs.length + 1) - T.length = 0 by omega]
      rfl
    · rw [List.getElem?_append_left (by omega), h3 i (by omega)]
      show some _ = some (txt s.log.text (s.log.revs ++ [r]) i)
      rw [txt_app _ _ _ _ (by omega)]
end Go.Proofs.Ytfncpcmaplhojaa
