/- A world beside a block of the law that stays as it is; rows of numbers. -/
import Derived.Test.YtmnnaemcjmiplaaW30
namespace Go.Proofs.Ytmnnaemcjmiplaa
open Go.ChangeShapes Go.WideShapes Go.RowKit
set_option linter.unusedVariables false
set_option linter.unusedSimpArgs false
set_option maxRecDepth 100000
set_option maxHeartbeats 4000000

def WdG (w : World) (B g q : Nat) (s : Sh) (X : List St) (put edits : Int) (e : Nat → Nat) : Prop := WdI w (fun k => B ≤ k ∧ k ≠ g) q s X put edits e
def BelG (B g : Nat) (w w' : World) : Prop := Below B w w' ∧ ∀ t cs, Blk w g t cs → Blk w' g t cs
theorem grow_G {B g k : Nat} {w w' : World} (hB : B ≤ w.heap.size) (hg : g < w.heap.size) (h : grow (fun k => B ≤ k ∧ k ≠ g) w w' k) : B ≤ k ∧ k ≠ g := by
  rcases h with h | h
  · exact h
  · omega
theorem only_G {B g : Nat} {w w' : World} (hB : B ≤ w.heap.size) (ho : Only w w' (fun k => B ≤ k ∧ k ≠ g)) : BelG B g w w' :=
  ⟨ho.below hB fun _ hk => hk.1, fun t cs h => h.only ho fun hk => hk.2 rfl⟩
section
variable {w w' : World} {B g q : Nat} {s : Sh} {X : List St} {put edits : Int} {e : Nat → Nat}
theorem WdG.b (h : WdG w B g q s X put edits e) : WdB w B q s X put edits e := WdI.mono h fun k _ hk => hk.1
theorem WdB.toG (h : WdB w B q s X put edits e) (hg : w.heap.size ≤ g) : WdG w B g q s X put edits e := WdI.mono h fun k hk hb => ⟨hb, by omega⟩
theorem WdG.only (h : WdG w B g q s X put edits e) {t : TypeId} {cs : Array Value} (hb : Blk w g t cs) (ht : t ≠ 81) (ho : Only w w' (fun k => k = g)) : WdG w' B g q s X put edits e := by
  obtain ⟨⟨F, sq, gs, cap, E, sp, hM, hF, hq, hgs, hu⟩, hI⟩ := h
  have hS : ∀ k, k = g → F k ∨ ∃ cs t, Blk w k t cs ∧ t ≠ 81 := fun k hk => .inr ⟨cs, t, hk ▸ hb, ht⟩
  refine ⟨⟨F, sq, gs, cap, E, sp, ⟨hM.fq, hM.fg, hM.kq.only ho (fun e => hq.2 e), hM.kg.only ho (fun e => hgs.2 e), hM.c1, hM.c2, hM.le, fun i x a hx ha => ?_, hM.ub, ⟨hM.sh.mem.only ho (fun k hk e => (hF k hk).2 e), hM.sh.inv⟩⟩, hF, hq, hgs, hu⟩, hI⟩
  have hs := hM.ss i x a hx ha
  exact ⟨hs.s.only ho hS, hs.h.only ho hS, hs.u.only ho hS (fun k hk e => (hu i a ha k hk).2 e)⟩
theorem WdG.below (h : WdG w B g q s X put edits e) (hb : Below w.heap.size w w') : WdG w' B g q s X put edits e := WdI.below h hb
theorem wup_G (h : WdG w B g q s X put edits e) (hB : B ≤ w.heap.size) (hg : g < w.heap.size) {i : Nat} (hi : i < X.length) :
    Calls Try.prog 49 #[.pointer (some ⟨q, 0, none⟩), .int .i64 i] w fun en w' => ∃ b s' X', en = .returned (.bool b) ∧ UpR s X i b s' X' ∧ WdG w' B g q s' X' put edits e ∧ BelG B g w w' := by
  refine (wup_I h hi).mono ?_
  rintro en w' ⟨b, s', X', h1, h2, h3, h4⟩
  exact ⟨b, s', X', h1, h2, h3.mono fun k _ hk => grow_G hB hg hk, only_G hB h4⟩
theorem wdown_G (h : WdG w B g q s X put edits e) (hB : B ≤ w.heap.size) (hg : g < w.heap.size) {i : Nat} (hi : i < X.length) :
    Calls Try.prog 50 #[.pointer (some ⟨q, 0, none⟩), .int .i64 i] w fun en w' => ∃ b X', en = .returned (.bool b) ∧ DownR s X i b X' ∧ WdG w' B g q s X' put edits e ∧ BelG B g w w' := by
  refine (wdown_I h hi).mono ?_
  rintro en w' ⟨b, X', h1, h2, h3, h4⟩
  exact ⟨b, X', h1, h2, h3.mono fun k _ hk => grow_G hB hg hk, only_G hB h4⟩
theorem wsettle_G (h : WdG w B g q s X put edits e) (hB : B ≤ w.heap.size) (hg : g < w.heap.size) (Ev : Sh → List St → Prop) (hev : EvW put edits e Ev) (h0 : Ev s X) :
    Calls Try.prog 42 #[.pointer (some ⟨q, 0, none⟩)] w fun en w' => en = .returned (.tuple #[]) ∧ ∃ s' X', WdG w' B g q s' X' put edits e ∧ calmW s' X' ∧ Ev s' X' ∧ X'.length = X.length ∧ BelG B g w w' := by
  refine (wsettle_I h Ev hev h0).mono ?_
  rintro en w' ⟨h1, s', X', h2, h3, h4, h5, h6⟩
  exact ⟨h1, s', X', h2.mono fun k _ hk => grow_G hB hg hk, h3, h4, h5, only_G hB h6⟩
theorem wedit_G (h : WdG w B g q s X put edits e) (hB : B ≤ w.heap.size) (hg : g < w.heap.size) {i : Nat} (hi : i < X.length) (d : List Pt) (A : Option Addr) (n c : Nat) (hd : RdP w B A n c d) :
    Calls Try.prog 40 #[.pointer (some ⟨q, 0, none⟩), .int .i64 i, .slice A n c] w fun en w' =>
      (∃ EE : Int, en = .returned (.int .i64 EE) ∧ EE ≠ 0 ∧ WdG w' B g q s X put edits e ∧ BelG B g w w') ∨
      (∃ x, en = .returned (.int .i64 0) ∧ X[i]? = some x ∧ doE d x.c.text = 0 ∧ WdG w' B g q s (X.set i (editS x d)) (put + (nP (units d) : Int)) (edits + 1) (fun k => if k = i then e k + 1 else e k) ∧ BelG B g w w') := by
  obtain ⟨h1, h2⟩ := h.b.pos
  refine (wedit_I h hi h1 h2 d A n c (RdQ.of hd hB fun k hk => hk.1)).mono ?_
  rintro en w' (⟨EE, g1, g2, g3, g4, _⟩ | ⟨x, g1, g2, g3, g4, g5⟩)
  · exact .inl ⟨EE, g1, g2, g3.mono fun k _ hk => grow_G hB hg hk, only_G hB g4⟩
  · exact .inr ⟨x, g1, g2, g3.1, g4.mono fun k _ hk => grow_G hB hg hk, only_G hB g5⟩
end
theorem act_G {w : World} {B g q : Nat} {s : Sh} {X : List St} {put edits : Int} {e : Nat → Nat} (h : WdG w B g q s X put edits e) (hB : B ≤ w.heap.size) (hg : g < w.heap.size) (cs : List Int) (Ac : Option Addr) (nc cc : Nat) (hc : RdI w B Ac nc cc cs) (d : List Pt) (A : Option Addr) (n cp : Nat) (hd : RdP w B A n cp d) :
    Calls Try.prog 41 #[.pointer (some ⟨q, 0, none⟩), .int .i64 X.length, .slice Ac nc cc, .slice A n cp] w fun en w' => en = .returned (.tuple #[]) ∧ ∃ s' X' put' edits' e', ActR (kOf cs) (iOf X.length cs) d s X put edits e s' X' put' edits' e' ∧ WdG w' B g q s' X' put' edits' e' ∧ BelG B g w w' := by
  obtain ⟨N, hN⟩ : ∃ N, X.length = N := ⟨_, rfl⟩
  have hn1 := h.2.n1
  have hn4 := h.2.n4
  rw [hN] at hn1 hn4 ⊢
  match cs, hc with
  | [], hc =>
    obtain rfl : nc = 0 := hc.1
    have hI : 0 < X.length := by omega
    go_enter Try.func41, Try.ntmps41
    have Hc_ := Lib.hid (wedit_G h hB hg (i := 0) hI d A n cp hd)
    go_wp2_with fail
    refine Hc_.out.mono ?_
    rintro en w' (⟨EE, rfl, g2, g3, g4⟩ | ⟨x, rfl, g2, g3, g4, g5⟩)
    · go_wp2_with fail
      go_end0
      exact ⟨rfl, _, _, _, _, _, .inl ⟨rfl, rfl, rfl, rfl, rfl, rfl⟩, g3, g4⟩
    · go_wp2_with fail
      go_end0
      exact ⟨rfl, _, _, _, _, _, .inr (.inl ⟨rfl, rfl, x, g2, g3, rfl, rfl, rfl, rfl⟩), g4, g5⟩
  | [a], hc =>
    obtain rfl : nc = 1 := hc.1
    obtain ⟨b0, o0, hAc, hb0, d0⟩ := hc.at_ 0 (by omega)
    subst hAc
    have hI : 0 < X.length := by omega
    simp only [List.getElem_cons_zero, Nat.add_zero] at d0
    go_enter Try.func41, Try.ntmps41
    have hk3 := wi_lt a 3 (by decide)
    obtain ⟨K, hK⟩ : ∃ K, wi a 3 = K := ⟨_, rfl⟩
    have Hw3 := Lib.hid (within_any a 3 w (by decide) (by decide))
    rw [hK] at hk3 Hw3
    have HK := Lib.hid hK
    clear hK
    rcases (show K = 0 ∨ K = 1 ∨ K = 2 by omega) with hk0 | hk0 | hk0
    · subst hk0
      go_wp2_with fail
      refine Hw3.out.mono ?_
      rintro en w9 ⟨rfl, rfl⟩
      clear Hw3
      have Hc_ := Lib.hid (wedit_G h hB hg (i := 0) hI d A n cp hd)
      go_wp2_with fail
      refine Hc_.out.mono ?_
      rintro en w' (⟨EE, rfl, g2, g3, g4⟩ | ⟨x, rfl, g2, g3, g4, g5⟩)
      · go_wp2_with fail
        go_end0
        exact ⟨rfl, _, _, _, _, _, .inl ⟨rfl, rfl, rfl, rfl, rfl, HK.out⟩, g3, g4⟩
      · go_wp2_with fail
        go_end0
        exact ⟨rfl, _, _, _, _, _, .inr (.inl ⟨HK.out, rfl, x, g2, g3, rfl, rfl, rfl, rfl⟩), g4, g5⟩
    · subst hk0
      go_wp2_with fail
      refine Hw3.out.mono ?_
      rintro en w9 ⟨rfl, rfl⟩
      clear Hw3
      have Hc_ := Lib.hid (wup_G h hB hg (i := 0) hI)
      go_wp2_with fail
      refine Hc_.out.mono ?_
      rintro en w' ⟨b, s', X', rfl, g2, g3, g4⟩
      go_wp2_with fail
      go_end0
      exact ⟨rfl, _, _, _, _, _, .inr (.inr ⟨(by show 0 < wi a 3; rw [HK.out]; decide), rfl, rfl, rfl, .inl ⟨b, g2⟩⟩), g3, g4⟩
    · subst hk0
      go_wp2_with fail
      refine Hw3.out.mono ?_
      rintro en w9 ⟨rfl, rfl⟩
      clear Hw3
      have Hc_ := Lib.hid (wdown_G h hB hg (i := 0) hI)
      go_wp2_with fail
      refine Hc_.out.mono ?_
      rintro en w' ⟨b, X', rfl, g2, g3, g4⟩
      go_wp2_with fail
      go_end0
      exact ⟨rfl, _, _, _, _, _, .inr (.inr ⟨(by show 0 < wi a 3; rw [HK.out]; decide), rfl, rfl, rfl, .inr ⟨rfl, b, g2⟩⟩), g3, g4⟩
  | a :: b :: r, hc =>
    obtain rfl : nc = r.length + 2 := hc.1
    obtain ⟨b0, o0, hAc, hb0, d0⟩ := hc.at_ 0 (by omega)
    obtain ⟨b1, o1, hAc1, hb1, d1⟩ := hc.at_ 1 (by omega)
    rw [hAc] at hAc1
    have hAc1 := Option.some.inj hAc1
    injection hAc1 with e1 e2 e3
    subst e1 e2
    subst hAc
    simp only [List.getElem_cons_zero, List.getElem_cons_succ, Nat.add_zero] at d0 d1
    have hrl : (1 : Int) < ((r.length + 2 : Nat) : Int) := by omega
    have hrl0 : (0 : Int) < ((r.length + 2 : Nat) : Int) := by omega
    have hI : wi b N < X.length := by rw [hN]; exact wi_lt b N (by omega)
    obtain ⟨I, hII⟩ : ∃ I, wi b N = I := ⟨_, rfl⟩
    have Hw := Lib.hid (within_any b N w (by omega) (by omega))
    rw [hII] at hI Hw
    have hIO : iOf N (a :: b :: r) = I := hII
    rw [hIO]
    go_enter Try.func41, Try.ntmps41
    go_wp2_with fail
    refine Hw.out.mono ?_
    rintro en w9 ⟨rfl, rfl⟩
    clear Hw
    have hk3 := wi_lt a 3 (by decide)
    obtain ⟨K, hK⟩ : ∃ K, wi a 3 = K := ⟨_, rfl⟩
    have Hw3 := Lib.hid (within_any a 3 w (by decide) (by decide))
    rw [hK] at hk3 Hw3
    have HK := Lib.hid hK
    clear hK
    rcases (show K = 0 ∨ K = 1 ∨ K = 2 by omega) with hk0 | hk0 | hk0
    · subst hk0
      go_wp2_with fail
      refine Hw3.out.mono ?_
      rintro en w9 ⟨rfl, rfl⟩
      clear Hw3
      have Hc_ := Lib.hid (wedit_G h hB hg (i := I) hI d A n cp hd)
      go_wp2_with fail
      refine Hc_.out.mono ?_
      rintro en w' (⟨EE, rfl, g2, g3, g4⟩ | ⟨x, rfl, g2, g3, g4, g5⟩)
      · go_wp2_with fail
        go_end0
        exact ⟨rfl, _, _, _, _, _, .inl ⟨rfl, rfl, rfl, rfl, rfl, HK.out⟩, g3, g4⟩
      · go_wp2_with fail
        go_end0
        exact ⟨rfl, _, _, _, _, _, .inr (.inl ⟨HK.out, rfl, x, g2, g3, rfl, rfl, rfl, rfl⟩), g4, g5⟩
    · subst hk0
      go_wp2_with fail
      refine Hw3.out.mono ?_
      rintro en w9 ⟨rfl, rfl⟩
      clear Hw3
      have Hc_ := Lib.hid (wup_G h hB hg (i := I) hI)
      go_wp2_with fail
      refine Hc_.out.mono ?_
      rintro en w' ⟨b, s', X', rfl, g2, g3, g4⟩
      go_wp2_with fail
      go_end0
      exact ⟨rfl, _, _, _, _, _, .inr (.inr ⟨(by show 0 < wi a 3; rw [HK.out]; decide), rfl, rfl, rfl, .inl ⟨b, g2⟩⟩), g3, g4⟩
    · subst hk0
      go_wp2_with fail
      refine Hw3.out.mono ?_
      rintro en w9 ⟨rfl, rfl⟩
      clear Hw3
      have Hc_ := Lib.hid (wdown_G h hB hg (i := I) hI)
      go_wp2_with fail
      refine Hc_.out.mono ?_
      rintro en w' ⟨b, X', rfl, g2, g3, g4⟩
      go_wp2_with fail
      go_end0
      exact ⟨rfl, _, _, _, _, _, .inr (.inr ⟨(by show 0 < wi a 3; rw [HK.out]; decide), rfl, rfl, rfl, .inr ⟨rfl, b, g2⟩⟩), g3, g4⟩

/-- a row of numbers, one for each hand -/
def arrE (N : Nat) (f : Nat → Nat) : Array Value := ((List.range N).map fun i => Value.int .i64 (f i : Nat)).toArray
theorem arrE_at (N : Nat) (f : Nat → Nat) {i : Nat} (h : i < N) : (arrE N f)[i]? = some (.int .i64 (f i : Nat)) := by
  rw [arrE, List.getElem?_toArray, List.getElem?_map, List.getElem?_range h]
  rfl
theorem arrE_set (N : Nat) (f f' : Nat → Nat) {i : Nat} (h : i < N) (v : Value) (hv : v = .int .i64 (f' i : Nat)) (hf : ∀ k, k ≠ i → f' k = f k) : (arrE N f).setIfInBounds i v = arrE N f' := by
  rw [arrE, arrE, List.setIfInBounds_toArray]
  congr 1
  apply List.ext_getElem?
  intro k
  rw [List.getElem?_set]
  split
  · rename_i e
    subst e
    rw [if_pos (by simpa using h), List.getElem?_map, List.getElem?_range h, hv]
    rfl
  · rename_i e
    rw [List.getElem?_map, List.getElem?_map]
    by_cases hk : k < N
    · rw [List.getElem?_range hk]
      simp only [Option.map_some]
      rw [hf k (fun x => e x.symm)]
    · rw [List.getElem?_eq_none (by simpa using hk)]
      rfl
theorem arrE_zero (N : Nat) : arrE N (fun _ => 0) = (List.replicate N (Value.int .i64 0)).toArray := by
  rw [arrE]
  congr 1
  apply List.ext_getElem?
  intro k
  rw [List.getElem?_map, List.getElem?_replicate]
  by_cases hk : k < N
  · rw [List.getElem?_range hk, if_pos hk]
    rfl
  · rw [List.getElem?_eq_none (by simpa using hk), if_neg hk]
    rfl
theorem made_rep (n : Nat) : (madeCells (Value.int .i64 0).cells (n * 1)).toList = List.replicate n (Value.int .i64 0) := by
  rw [Nat.mul_one]
  exact toList_madeCells_one _ _
theorem made_arr {w : World} {base N g : Nat} {xs : List Value} (h : w.ownsRow base 3 1 (.slice (some ⟨g, 0, none⟩) N N) N xs) (hx : xs = List.replicate N (Value.int .i64 0)) : Blk w g 3 (arrE N fun _ => 0) := by
  rcases h.2 with ⟨h0, _⟩ | ⟨g', cap, cur, h0, hb, hh, h1, h2, h3, h4⟩
  · cases h0
  · injection h0 with e1 e2 e3
    injection e1 with e1
    injection e1 with e4 e5 e6
    subst e3 e4
    have hc : cur = (List.replicate N (Value.int .i64 0)).toArray := by
      rw [← hx, ← h4, List.take_of_length_le (by rw [Array.length_toList]; omega)]
    rw [arrE_zero, ← hc]
    exact hh
end Go.Proofs.Ytmnnaemcjmiplaa
