/- A world of a law: all its blocks lie behind what was there. put of the laws; what is put at the beginning; what the ends need. Contract of world.Client. -/
import Derived.Test.YtmnnaemcjmiplaaW29
import Derived.Test.YtmnnaemcjmiplaaW25
import Derived.Test.YtmnnaemcjmiplaaW11
import Derived.Test.YtmnnaemcjmiplaaW26
namespace Go.Proofs.Ytmnnaemcjmiplaa
open Go.ChangeShapes Go.WideShapes Go.RowKit
set_option linter.unusedVariables false
set_option linter.unusedSimpArgs false
set_option maxRecDepth 100000
set_option maxHeartbeats 4000000

def WdB (w : World) (B q : Nat) (s : Sh) (X : List St) (put edits : Int) (e : Nat → Nat) : Prop := WdI w (fun k => B ≤ k) q s X put edits e
theorem grow_B {B k : Nat} {w w' : World} (hB : B ≤ w.heap.size) (h : grow (fun k => B ≤ k) w w' k) : B ≤ k := by
  rcases h with h | h
  · exact h
  · omega
/-- what becomes of a world by an act -/
def ActR (k i : Nat) (d : List Pt) (s : Sh) (X : List St) (put edits : Int) (e : Nat → Nat) (s' : Sh) (X' : List St) (put' edits' : Int) (e' : Nat → Nat) : Prop :=
  (s' = s ∧ X' = X ∧ put' = put ∧ edits' = edits ∧ e' = e ∧ k = 0) ∨
  (k = 0 ∧ s' = s ∧ ∃ x, X[i]? = some x ∧ doE d x.c.text = 0 ∧ X' = X.set i (editS x d) ∧ put' = put + (nP (units d) : Int) ∧ edits' = edits + 1 ∧ e' = fun k => if k = i then e k + 1 else e k) ∨
  (0 < k ∧ put' = put ∧ edits' = edits ∧ e' = e ∧ ((∃ b, UpR s X i b s' X') ∨ (s' = s ∧ ∃ b, DownR s X i b X')))
def kOf : List Int → Nat
  | [] => 0
  | a :: _ => wi a 3
def iOf (n : Nat) : List Int → Nat
  | _ :: b :: _ => wi b n
  | _ => 0
theorem ActR.len {k i : Nat} {d : List Pt} {s s' : Sh} {X X' : List St} {put edits put' edits' : Int} {e e' : Nat → Nat} (h : ActR k i d s X put edits e s' X' put' edits' e') : X'.length = X.length := by
  rcases h with ⟨_, rfl, _⟩ | ⟨_, _, x, _, _, rfl, _⟩ | ⟨_, _, _, _, ⟨b, hu⟩ | ⟨_, b, hd⟩⟩
  · rfl
  · rw [List.length_set]
  · exact hu.len
  · exact hd.len
theorem iOf_lt (n : Nat) (c : List Int) (h : 0 < n) : iOf n c < n := by
  match c with
  | [] => exact h
  | [_] => exact h
  | _ :: b :: _ => exact wi_lt b n h
section
variable {w w' : World} {B q : Nat} {s : Sh} {X : List St} {put edits : Int} {e : Nat → Nat}
theorem WdB.pos (h : WdB w B q s X put edits e) : 0 ≤ put ∧ 0 ≤ edits := by
  have h1 := h.2.byt
  have h2 := h.2.cnt
  constructor <;> omega
theorem WdB.below (h : WdB w B q s X put edits e) (hb : Below w.heap.size w w') : WdB w' B q s X put edits e := WdI.below h hb
theorem only_B (hB : B ≤ w.heap.size) (ho : Only w w' (fun k => B ≤ k)) : Below B w w' := ho.below hB fun _ hk => hk
theorem wnew_B (n : Nat) (h1 : 1 ≤ n) (h4 : n ≤ 4) (w : World) (hB : B ≤ w.heap.size) :
    Calls Try.prog 39 #[.int .i64 n] w fun en w' => ∃ q, en = .returned (.tuple #[.pointer (some ⟨q, 0, none⟩), .int .i64 0]) ∧ WdI w' (fun k => B ≤ k ∧ k < w'.heap.size) q shN (seatsN n) 0 0 (fun _ => 0) ∧ Below w.heap.size w w' := by
  refine (wnew_I n h1 h4 w).mono ?_
  rintro en w' ⟨q, h, hw, hb⟩
  exact ⟨q, h, hw.mono (fun k _ hk => ⟨Nat.le_trans hB hk.1, hk.2⟩), hb⟩
theorem wup_B (h : WdB w B q s X put edits e) (hB : B ≤ w.heap.size) {i : Nat} (hi : i < X.length) :
    Calls Try.prog 49 #[.pointer (some ⟨q, 0, none⟩), .int .i64 i] w fun en w' => ∃ b s' X', en = .returned (.bool b) ∧ UpR s X i b s' X' ∧ WdB w' B q s' X' put edits e ∧ Below B w w' := by
  refine (wup_I h hi).mono ?_
  rintro en w' ⟨b, s', X', h1, h2, h3, h4⟩
  exact ⟨b, s', X', h1, h2, h3.mono fun k _ hk => grow_B hB hk, only_B hB h4⟩
theorem wdown_B (h : WdB w B q s X put edits e) (hB : B ≤ w.heap.size) {i : Nat} (hi : i < X.length) :
    Calls Try.prog 50 #[.pointer (some ⟨q, 0, none⟩), .int .i64 i] w fun en w' => ∃ b X', en = .returned (.bool b) ∧ DownR s X i b X' ∧ WdB w' B q s X' put edits e ∧ Below B w w' := by
  refine (wdown_I h hi).mono ?_
  rintro en w' ⟨b, X', h1, h2, h3, h4⟩
  exact ⟨b, X', h1, h2, h3.mono fun k _ hk => grow_B hB hk, only_B hB h4⟩
theorem wsettle_B (h : WdB w B q s X put edits e) (hB : B ≤ w.heap.size) (Ev : Sh → List St → Prop) (hev : EvW put edits e Ev) (h0 : Ev s X) :
    Calls Try.prog 42 #[.pointer (some ⟨q, 0, none⟩)] w fun en w' => en = .returned (.tuple #[]) ∧ ∃ s' X', WdB w' B q s' X' put edits e ∧ calmW s' X' ∧ Ev s' X' ∧ X'.length = X.length ∧ Below B w w' := by
  refine (wsettle_I h Ev hev h0).mono ?_
  rintro en w' ⟨h1, s', X', h2, h3, h4, h5, h6⟩
  exact ⟨h1, s', X', h2.mono fun k _ hk => grow_B hB hk, h3, h4, h5, only_B hB h6⟩
theorem wedit_B (h : WdB w B q s X put edits e) (hB : B ≤ w.heap.size) {i : Nat} (hi : i < X.length) (d : List Pt) (A : Option Addr) (n c : Nat) (hd : RdP w B A n c d) :
    Calls Try.prog 40 #[.pointer (some ⟨q, 0, none⟩), .int .i64 i, .slice A n c] w fun en w' =>
      (∃ EE : Int, en = .returned (.int .i64 EE) ∧ EE ≠ 0 ∧ WdB w' B q s X put edits e ∧ Below B w w') ∨
      (∃ x, en = .returned (.int .i64 0) ∧ X[i]? = some x ∧ doE d x.c.text = 0 ∧ WdB w' B q s (X.set i (editS x d)) (put + (nP (units d) : Int)) (edits + 1) (fun k => if k = i then e k + 1 else e k) ∧ Below B w w') := by
  obtain ⟨h1, h2⟩ := h.pos
  refine (wedit_I h hi h1 h2 d A n c (RdQ.of hd hB fun k hk => hk)).mono ?_
  rintro en w' (⟨EE, g1, g2, g3, g4, _⟩ | ⟨x, g1, g2, g3, g4, g5⟩)
  · exact .inl ⟨EE, g1, g2, g3.mono fun k _ hk => grow_B hB hk, only_B hB g4⟩
  · exact .inr ⟨x, g1, g2, g3.1, g4.mono fun k _ hk => grow_B hB hk, only_B hB g5⟩
/-- the first edit, whose delta lies behind the world -/
theorem wfirst_B {Z : Nat} (n : Nat) (h1 : 1 ≤ n) (h : WdI w (fun k => B ≤ k ∧ k < Z) q shN (seatsN n) 0 0 (fun _ => 0)) (hB : B ≤ w.heap.size) (t : ByteArray) (ht : t.size ≤ 64) (A : Option Addr) (m c : Nat) (hd : RdP w w.heap.size A m c [(2, 0, t)]) (hA : ∀ ad, A = some ad → Z ≤ ad.block) (hE : doE [(2, 0, t)] emp = 0) (hn : nP (units [(2, 0, t)]) ≤ 500) :
    Calls Try.prog 40 #[.pointer (some ⟨q, 0, none⟩), .int .i64 0, .slice A m c] w fun en w' =>
      en = .returned (.int .i64 0) ∧ WdB w' B q shN ((seatsN n).set 0 (editS (seat0 0) [(2, 0, t)])) (nP (units [(2, 0, t)]) : Int) 1 (fun k => if k = 0 then 1 else 0) ∧ Below B w w' := by
  have hX : (seatsN n).length = n := by rw [seatsN, List.length_map, List.length_range]
  have h0 : (seatsN n)[0]? = some (seat0 0) := by rw [seatsN, List.getElem?_map, List.getElem?_range (by omega)]; rfl
  refine (wedit_I h (i := 0) (by omega) (Int.le_refl 0) (Int.le_refl 0) [(2, 0, t)] A m c ⟨hd, fun ad e _ hp => by have := hA ad e; omega⟩).mono ?_
  rintro en w' (⟨EE, g1, g2, g3, g4, g5⟩ | ⟨x, g1, g2, g3, g4, g5⟩)
  · refine absurd ⟨hE, by decide, ?_⟩ (g5 _ h0)
    omega
  · rw [h0] at g2
    have g2 := Option.some.inj g2
    subst g2
    refine ⟨g1, ?_, g5.below hB fun k hk => hk.1⟩
    have := g4.mono (P' := fun k => B ≤ k) (fun k _ hk => by
      rcases hk with hk | hk
      · exact hk.1
      · omega)
    simp only [Int.zero_add] at this
    exact this
theorem wtext_B (h : WdB w B q s X put edits e) {i : Nat} {x : St} (hx : X[i]? = some x) :
    Calls Try.prog 46 #[.pointer (some ⟨q, 0, none⟩), .int .i64 i] w fun e w' => e = .returned (.tuple #[.string x.c.text, .int .i64 0]) ∧ Below w.heap.size w w' := by
  obtain ⟨F, sq, gs, cap, E, sp, hM, _⟩ := h.1
  exact wtext_any w F q sq gs cap E sp s X put edits hM i x hx
theorem wrevs_B (h : WdB w B q s X put edits e) :
    Calls Try.prog 43 #[.pointer (some ⟨q, 0, none⟩)] w fun e w' => ∃ (sl' : Sl) (ss : List Sl), e = .returned (.slice sl'.1 sl'.2.1 sl'.2.2) ∧ OwnV w' w.heap.size (.slice sl'.1 sl'.2.1 sl'.2.2) ss s.log.revs ∧ Below w.heap.size w w' := by
  obtain ⟨F, sq, gs, cap, E, sp, hM, _⟩ := h.1
  exact wrevs_any w F q sq gs cap E sp s X put edits hM h.2.base
end
theorem act_B {w : World} {B q : Nat} {s : Sh} {X : List St} {put edits : Int} {e : Nat → Nat} (h : WdB w B q s X put edits e) (hB : B ≤ w.heap.size) (cs : List Int) (Ac : Option Addr) (nc cc : Nat) (hc : RdI w B Ac nc cc cs) (d : List Pt) (A : Option Addr) (n cp : Nat) (hd : RdP w B A n cp d) :
    Calls Try.prog 41 #[.pointer (some ⟨q, 0, none⟩), .int .i64 X.length, .slice Ac nc cc, .slice A n cp] w fun en w' => en = .returned (.tuple #[]) ∧ ∃ s' X' put' edits' e', ActR (kOf cs) (iOf X.length cs) d s X put edits e s' X' put' edits' e' ∧ WdB w' B q s' X' put' edits' e' ∧ Below B w w' := by
  obtain ⟨N, hN⟩ : ∃ N, X.length = N := ⟨_, rfl⟩
  have hn1 := h.2.n1
  have hn4 := h.2.n4
  rw [hN] at hn1 hn4 ⊢
  match cs, hc with
  | [], hc =>
    obtain rfl : nc = 0 := hc.1
    have hI : 0 < X.length := by omega
    go_enter Try.func41, Try.ntmps41
    have Hc_ := Lib.hid (wedit_B h hB (i := 0) hI d A n cp hd)
    go_wp2_with fail
    refine Hc_.out.mono ?_
    rintro en w' (⟨EE, rfl, g2, g3, g4⟩ | ⟨x, rfl, g2, g3, g4, g5⟩)
    · go_wp2_with fail
      go_end0
      exact ⟨rfl, _, _, _, _, _, .inl ⟨rfl, rfl, rfl, rfl, rfl, rfl⟩, g3, g4⟩
    · go_wp2_with fail
      go_end0
      exact ⟨rfl, _, _, _, _, _, .inr (.inl ⟨rfl, rfl, x, g2, g3, rfl, rfl, rfl, rfl⟩), g4, g5⟩
  | [a], hc =>
    obtain rfl : nc = 1 := hc.1
    obtain ⟨b0, o0, hAc, hb0, d0⟩ := hc.at_ 0 (by omega)
    subst hAc
    have hI : 0 < X.length := by omega
    simp only [List.getElem_cons_zero, Nat.add_zero] at d0
    go_enter Try.func41, Try.ntmps41
    have hk3 := wi_lt a 3 (by decide)
    obtain ⟨K, hK⟩ : ∃ K, wi a 3 = K := ⟨_, rfl⟩
    have Hw3 := Lib.hid (within_any a 3 w (by decide) (by decide))
    rw [hK] at hk3 Hw3
    have HK := Lib.hid hK
    clear hK
    rcases (show K = 0 ∨ K = 1 ∨ K = 2 by omega) with hk0 | hk0 | hk0
    · subst hk0
      go_wp2_with fail
      refine Hw3.out.mono ?_
      rintro en w9 ⟨rfl, rfl⟩
      clear Hw3
      have Hc_ := Lib.hid (wedit_B h hB (i := 0) hI d A n cp hd)
      go_wp2_with fail
      refine Hc_.out.mono ?_
      rintro en w' (⟨EE, rfl, g2, g3, g4⟩ | ⟨x, rfl, g2, g3, g4, g5⟩)
      · go_wp2_with fail
        go_end0
        exact ⟨rfl, _, _, _, _, _, .inl ⟨rfl, rfl, rfl, rfl, rfl, HK.out⟩, g3, g4⟩
      · go_wp2_with fail
        go_end0
        exact ⟨rfl, _, _, _, _, _, .inr (.inl ⟨HK.out, rfl, x, g2, g3, rfl, rfl, rfl, rfl⟩), g4, g5⟩
    · subst hk0
      go_wp2_with fail
      refine Hw3.out.mono ?_
      rintro en w9 ⟨rfl, rfl⟩
      clear Hw3
      have Hc_ := Lib.hid (wup_B h hB (i := 0) hI)
      go_wp2_with fail
      refine Hc_.out.mono ?_
      rintro en w' ⟨b, s', X', rfl, g2, g3, g4⟩
      go_wp2_with fail
      go_end0
      exact ⟨rfl, _, _, _, _, _, .inr (.inr ⟨(by show 0 < wi a 3; rw [HK.out]; decide), rfl, rfl, rfl, .inl ⟨b, g2⟩⟩), g3, g4⟩
    · subst hk0
      go_wp2_with fail
      refine Hw3.out.mono ?_
      rintro en w9 ⟨rfl, rfl⟩
      clear Hw3
      have Hc_ := Lib.hid (wdown_B h hB (i := 0) hI)
      go_wp2_with fail
      refine Hc_.out.mono ?_
      rintro en w' ⟨b, X', rfl, g2, g3, g4⟩
      go_wp2_with fail
      go_end0
      exact ⟨rfl, _, _, _, _, _, .inr (.inr ⟨(by show 0 < wi a 3; rw [HK.out]; decide), rfl, rfl, rfl, .inr ⟨rfl, b, g2⟩⟩), g3, g4⟩
  | a :: b :: r, hc =>
    obtain rfl : nc = r.length + 2 := hc.1
    obtain ⟨b0, o0, hAc, hb0, d0⟩ := hc.at_ 0 (by omega)
    obtain ⟨b1, o1, hAc1, hb1, d1⟩ := hc.at_ 1 (by omega)
    rw [hAc] at hAc1
    have hAc1 := Option.some.inj hAc1
    injection hAc1 with e1 e2 e3
    subst e1 e2
    subst hAc
    simp only [List.getElem_cons_zero, List.getElem_cons_succ, Nat.add_zero] at d0 d1
    have hrl : (1 : Int) < ((r.length + 2 : Nat) : Int) := by omega
    have hrl0 : (0 : Int) < ((r.length + 2 : Nat) : Int) := by omega
    have hI : wi b N < X.length := by rw [hN]; exact wi_lt b N (by omega)
    obtain ⟨I, hII⟩ : ∃ I, wi b N = I := ⟨_, rfl⟩
    have Hw := Lib.hid (within_any b N w (by omega) (by omega))
    rw [hII] at hI Hw
    have hIO : iOf N (a :: b :: r) = I := hII
    rw [hIO]
    go_enter Try.func41, Try.ntmps41
    go_wp2_with fail
    refine Hw.out.mono ?_
    rintro en w9 ⟨rfl, rfl⟩
    clear Hw
    have hk3 := wi_lt a 3 (by decide)
    obtain ⟨K, hK⟩ : ∃ K, wi a 3 = K := ⟨_, rfl⟩
    have Hw3 := Lib.hid (within_any a 3 w (by decide) (by decide))
    rw [hK] at hk3 Hw3
    have HK := Lib.hid hK
    clear hK
    rcases (show K = 0 ∨ K = 1 ∨ K = 2 by omega) with hk0 | hk0 | hk0
    · subst hk0
      go_wp2_with fail
      refine Hw3.out.mono ?_
      rintro en w9 ⟨rfl, rfl⟩
      clear Hw3
      have Hc_ := Lib.hid (wedit_B h hB (i := I) hI d A n cp hd)
      go_wp2_with fail
      refine Hc_.out.mono ?_
      rintro en w' (⟨EE, rfl, g2, g3, g4⟩ | ⟨x, rfl, g2, g3, g4, g5⟩)
      · go_wp2_with fail
        go_end0
        exact ⟨rfl, _, _, _, _, _, .inl ⟨rfl, rfl, rfl, rfl, rfl, HK.out⟩, g3, g4⟩
      · go_wp2_with fail
        go_end0
        exact ⟨rfl, _, _, _, _, _, .inr (.inl ⟨HK.out, rfl, x, g2, g3, rfl, rfl, rfl, rfl⟩), g4, g5⟩
    · subst hk0
      go_wp2_with fail
      refine Hw3.out.mono ?_
      rintro en w9 ⟨rfl, rfl⟩
      clear Hw3
      have Hc_ := Lib.hid (wup_B h hB (i := I) hI)
      go_wp2_with fail
      refine Hc_.out.mono ?_
      rintro en w' ⟨b, s', X', rfl, g2, g3, g4⟩
      go_wp2_with fail
      go_end0
      exact ⟨rfl, _, _, _, _, _, .inr (.inr ⟨(by show 0 < wi a 3; rw [HK.out]; decide), rfl, rfl, rfl, .inl ⟨b, g2⟩⟩), g3, g4⟩
    · subst hk0
      go_wp2_with fail
      refine Hw3.out.mono ?_
      rintro en w9 ⟨rfl, rfl⟩
      clear Hw3
      have Hc_ := Lib.hid (wdown_B h hB (i := I) hI)
      go_wp2_with fail
      refine Hc_.out.mono ?_
      rintro en w' ⟨b, X', rfl, g2, g3, g4⟩
      go_wp2_with fail
      go_end0
      exact ⟨rfl, _, _, _, _, _, .inr (.inr ⟨(by show 0 < wi a 3; rw [HK.out]; decide), rfl, rfl, rfl, .inr ⟨rfl, b, g2⟩⟩), g3, g4⟩

end Go.Proofs.Ytmnnaemcjmiplaa
namespace Go.Proofs.Ytmnnaemcjmiplaa
open Go.ChangeShapes Go.WideShapes Go.RowKit
set_option linter.unusedVariables false
set_option linter.unusedSimpArgs false
set_option maxRecDepth 100000
set_option maxHeartbeats 4000000

theorem wput_any (s : ByteArray) (hs : s.size ≤ 140737488351232) (w : World) :
    Calls Try.prog 32 #[.string s] w fun e w' => ∃ A, e = .returned (.slice A 1 1) ∧ RdP w' w'.heap.size A 1 1 [(2, 0, s)] ∧ (∀ ad, A = some ad → w.heap.size ≤ ad.block) ∧ Below w.heap.size w w' := by
  have hr := RdP.built w #[.int .i64 2, .int .i64 0, .string s] [(2, 0, s)] 1 rfl rfl (by decide) (by simpa using hs)
  have Hr := Lib.hid hr
  clear hr
  go_enter Try.func32, Try.ntmps32
  go_wp2_with fail
  go_ret
  exact ⟨_, rfl, by simpa using Hr.out, fun ad e => by injection e with e; subst e; exact Nat.le_refl _, (Below.refl _ _).alloc (Nat.le_refl _) _⟩
theorem szP_pos : ∀ l : List Pt, 0 ≤ szP l := by
  intro l
  induction l with
  | nil => exact Int.le_refl _
  | cons p l ih => simp only [szP]; omega
def szR : List Rv → Int
  | [] => 0
  | r :: l => szP r.2.2 + szR l
theorem szR_eq : ∀ (l : List Rv), (∀ r ∈ l, chk r.2.2 = 0) → szR l = (putR l : Int)
  | [], _ => rfl
  | r :: l, h => by
    have h1 := nP_units r.2.2 (chk_parts (h r (by simp))).2.2.1
    have h2 := szR_eq l fun q hq => h q (by simp [hq])
    simp only [szR, putR]
    omega
theorem txr_allW : ∀ (l : List Rv) (s : ByteArray), txr s l = 0 → ∀ r ∈ l, chk r.2.2 = 0
  | [], _, _, r, h => by simp at h
  | q :: l, s, h, r, hr => by
    simp only [txr] at h
    split at h
    · rename_i h4; exact absurd h h4
    · split at h
      · rename_i h4 h5; exact absurd h h5
      · rename_i h4 h5
        have h5' : doE q.2.2 s = 0 := by simpa using h5
        rcases List.mem_cons.1 hr with rfl | hr
        · exact (do_chk h5').1
        · exact txr_allW l _ h r hr
theorem szR_snoc (l : List Rv) (r : Rv) : szR (l ++ [r]) = szR l + szP r.2.2 := by
  induction l with
  | nil => simp [szR]
  | cons q l ih => simp only [List.cons_append, szR, ih]; omega
theorem putR_take_le : ∀ (l : List Rv) (k : Nat), putR (l.take k) ≤ putR l
  | [], k => by simp [putR]
  | r :: l, 0 => by simp [putR]
  | r :: l, k + 1 => by
    have := putR_take_le l k
    simp only [List.take_succ_cons, putR]
    omega
theorem chk_a : doE [(2, 0, ⟨#[97]⟩)] emp = 0 := by decide +kernel
theorem nP_a : nP (units [(2, 0, ⟨#[97]⟩)]) = 1 := by decide +kernel
def X0 (n : Nat) : List St := (seatsN n).set 0 (editS (seat0 0) [(2, 0, ⟨#[97]⟩)])
theorem X0_len (n : Nat) : (X0 n).length = n := by rw [X0, List.length_set, seatsN, List.length_map, List.length_range]
theorem ActR.nil {k i : Nat} {s s' : Sh} {X X' : List St} {put edits put' edits' : Int} {e e' : Nat → Nat} (h : ActR k i [] s X put edits e s' X' put' edits' e') : put' = put := by
  rcases h with ⟨_, _, h, _⟩ | ⟨_, _, x, _, _, _, h, _⟩ | ⟨_, h, _⟩
  · exact h
  · rw [h]; simp [units, nP]
  · exact h
end Go.Proofs.Ytmnnaemcjmiplaa
namespace Go.Proofs.Ytmnnaemcjmiplaa
open Go.ChangeShapes Go.WideShapes Go.RowKit
set_option linter.unusedVariables false
set_option linter.unusedSimpArgs false
set_option maxRecDepth 100000
set_option maxHeartbeats 4000000

theorem wclient_any (w : World) (F : Nat → Prop) (q sq gs cap : Nat) (E : List (Sl × Sl × Sl)) (sp : List Value) (s : Sh) (X : List St) (put edits : Int) (h : WdM w F q sq gs cap E sp s X put edits) (i : Nat) (x : St) (hx : X[i]? = some x) (hck : CkOk x.c) :
    Calls Try.prog 48 #[.pointer (some ⟨q, 0, none⟩), .int .i64 i] w fun e w' => ∃ A1 n1 c1 A2 n2 c2, e = .returned (.tuple #[clv x.c (A1, n1, c1) (A2, n2, c2), .int .i64 0]) ∧ OwnP w' w.heap.size (.slice A1 n1 c1) x.c.sent ∧ OwnP w' w.heap.size (.slice A2 n2 c2) x.c.held ∧ Below w.heap.size w w' := by
  have hal := (Below.refl w.heap.size w).alloc (Nat.le_refl _) (.cells #[.int .i64 0, .int .i64 0, .int .i64 0, .string ⟨#[]⟩, .bool false, .slice none 0 0, .bool false, .slice none 0 0] 85)
  have kz0 := Blk.new w 85 #[.int .i64 0, .int .i64 0, .int .i64 0, .string ⟨#[]⟩, .bool false, .slice none 0 0, .bool false, .slice none 0 0]
  have hM := h.below hal
  obtain ⟨W, hW⟩ : ∃ W, w.alloc (.cells #[.int .i64 0, .int .i64 0, .int .i64 0, .string ⟨#[]⟩, .bool false, .slice none 0 0, .bool false, .slice none 0 0] 85) = W := ⟨_, rfl⟩
  rw [hW] at hal kz0 hM
  obtain ⟨N, hN⟩ : ∃ N, X.length = N := ⟨_, rfl⟩
  have hkq := hM.kq
  have hc1 := hM.c1
  have hc2 := hM.c2
  rw [hN] at hkq hc1
  have hcp : (N : Int) ≤ (cap : Int) := by omega
  have hcm : (cap : Int) ≤ 9223372036854775807 := by simp only [maxLen] at hc2; omega
  have hN0 : (0 : Int) ≤ (N : Int) := by omega
  have q0 : W.cell? ⟨q, 0, none⟩ = some (.pointer (some ⟨sq, 0, none⟩)) := hkq.cell 0
  have q1 : W.cell? ⟨q, 1, none⟩ = some (.slice (some ⟨gs, 0, none⟩) N cap) := hkq.cell 1
  have lq := hkq.lt
  have lg := hM.kg.lt
  have hiN : i < N := by rw [← hN]; exact (List.getElem?_eq_some_iff.1 hx).1
  have hi0 : (0 : Int) ≤ (i : Int) := by omega
  have hiN' : (i : Int) < (N : Int) := by omega
  obtain ⟨⟨⟨a1, a2, a3⟩, ⟨b1, b2, b3⟩, ⟨u1, u2, u3⟩⟩, ha, hs, hat⟩ := hM.at_ hx
  obtain ⟨ct1, ct2⟩ := ckok_txt hck
  obtain ⟨cn1, cn2⟩ := ckok_len hck
  have Hr := Lib.hid (client_rng hat)
  obtain ⟨z, hz⟩ : ∃ z, w.heap.size = z := ⟨_, rfl⟩
  have hS : RdP W W.heap.size a1 a2 a3 x.c.sent := rdS_ (hs.s.1) ct1
  have hH : RdP W W.heap.size b1 b2 b3 x.c.held := rdS_ (hs.h.1) ct2
  have hsn : a2 ≤ 4000000 := by have := hS.1; omega
  have hhn : b2 ≤ 4000000 := by have := hH.1; omega
  have HS := Lib.hid hS
  have HH := Lib.hid hH
  have HAL := Lib.hid hal
  have KZ0 := Lib.hid kz0
  clear hat hs ha hkq hc1 hc2 h hM hx hN hS hH ct1 ct2 cn1 cn2 hck hal kz0
  go_enter Try.func48, Try.ntmps48
  go_upto_region 1 with (fail)
  try rw [hW]
  clear hW
  rw [hz] at HAL KZ0
  try rw [hz]
  clear q0
  have HZw := Lib.hid hz
  clear hz
  go_upto_region 4 with (first | (refine wpList_load_mid rfl _ (.tmp 25) rfl gs (i * 10) rfl [.int .i64 x.c.who, .int .i64 x.c.rev, .int .i64 x.c.seq, .string x.c.text, .bool x.c.fly, .slice a1 a2 a3, .bool x.c.wait, .slice b1 b2 b3] _ Hr.out Try.underlying85 rfl client_info ?_) | (refine wpList_store_blk rfl _ (.tmp 6) (.tmp 26) rfl W.heap.size #[.int .i64 x.c.who, .int .i64 x.c.rev, .int .i64 x.c.seq, .string x.c.text, .bool x.c.fly, .slice a1 a2 a3, .bool x.c.wait, .slice b1 b2 b3] rfl rfl _ _ (Blk.new W _ _) client_info rfl (by simp [Value.oneCell']) ?_))
  have kc := (Blk.new W 85 #[.int .i64 0, .int .i64 0, .int .i64 0, .string ⟨#[]⟩, .bool false, .slice none 0 0, .bool false, .slice none 0 0]).row #[.int .i64 x.c.who, .int .i64 x.c.rev, .int .i64 x.c.seq, .string x.c.text, .bool x.c.fly, .slice a1 a2 a3, .bool x.c.wait, .slice b1 b2 b3]
  have hal := below_setRow ((Below.refl W.heap.size W).alloc (Nat.le_refl _) (.cells #[.int .i64 0, .int .i64 0, .int .i64 0, .string ⟨#[]⟩, .bool false, .slice none 0 0, .bool false, .slice none 0 0] 85)) W.heap.size #[.int .i64 x.c.who, .int .i64 x.c.rev, .int .i64 x.c.seq, .string x.c.text, .bool x.c.fly, .slice a1 a2 a3, .bool x.c.wait, .slice b1 b2 b3] (Nat.le_refl _)
  obtain ⟨V, hV⟩ : ∃ V, (W.alloc (.cells #[.int .i64 0, .int .i64 0, .int .i64 0, .string ⟨#[]⟩, .bool false, .slice none 0 0, .bool false, .slice none 0 0] 85)).setRow W.heap.size #[.int .i64 x.c.who, .int .i64 x.c.rev, .int .i64 x.c.seq, .string x.c.text, .bool x.c.fly, .slice a1 a2 a3, .bool x.c.wait, .slice b1 b2 b3] = V := ⟨_, rfl⟩
  obtain ⟨g, hg⟩ : ∃ g, W.heap.size = g := ⟨_, rfl⟩
  have hS1 := Lib.hid (HS.out.step (hV ▸ hal))
  have kr : Blk V z 85 #[.int .i64 0, .int .i64 0, .int .i64 0, .string ⟨#[]⟩, .bool false, .slice none 0 0, .bool false, .slice none 0 0] := KZ0.out.below (hV ▸ hal) KZ0.out.lt
  rw [hV] at kc hal ⊢
  have hzg : z < g := by rw [← hg]; exact KZ0.out.lt
  have hb0 : Below z w V := HAL.out.trans (hal.mono (by omega))
  have HHg := HH.out
  rw [hg] at kc HHg hal
  have HHg := Lib.hid HHg
  have hbg := hal
  try rw [hg]
  clear hV hal q1 lq lg Hr HS HH HAL KZ0 hg
  have c5 := kc.cell 5
  have cl := kc.lt
  have hgV : z ≤ V.heap.size := by omega
  have hggV : g ≤ V.heap.size := by have := kc.lt; omega
  have hggl : g < V.heap.size := kc.lt
  go_upto_region 5 with (first | (at_builtin; go_loud (refine wpList_app_partsC _ rfl (.const (.slice none 0 0)) (.tmp 28) rfl V.heap.size _ [] rfl (OwnP.nil _ _) a1 a2 a3 _ x.c.sent rfl hS1.out (by simp; omega) (Nat.le_refl _) ?_; intro v1 w1 q1 q2; rw [List.nil_append] at q1; obtain ⟨A1, c1, rfl⟩ := q1.form_ (n := a2) hS1.out.1.symm; have e1 := kc.below q2 kc.lt; have d5 := e1.cell 5; have f5 := e1.frozen 5; have l1 := e1.lt)))
  have hb2 : Below z w (w1.setCell ⟨g, 5, none⟩ (.slice A1 a2 c1)) := (hb0.trans (q2.mono hgV)).setCell (p := ⟨g, 5, none⟩) (Nat.le_of_lt hzg) _
  have kc2 : Blk (w1.setCell ⟨g, 5, none⟩ (.slice A1 a2 c1)) g 85 #[.int .i64 x.c.who, .int .i64 x.c.rev, .int .i64 x.c.seq, .string x.c.text, .bool x.c.fly, .slice A1 a2 c1, .bool x.c.wait, .slice b1 b2 b3] := e1.set_ 5 _
  have kr2 : Blk (w1.setCell ⟨g, 5, none⟩ (.slice A1 a2 c1)) z 85 #[.int .i64 0, .int .i64 0, .int .i64 0, .string ⟨#[]⟩, .bool false, .slice none 0 0, .bool false, .slice none 0 0] := (kr.below q2 kr.lt).far (p := ⟨g, 5, none⟩) (by simp only; omega) _
  have hW2 : V.heap.size ≤ (w1.setCell ⟨g, 5, none⟩ (.slice A1 a2 c1)).heap.size := by simp; exact q2.size
  have o2 := Lib.hid (own_only q1 (Only.setSelf w1 g 5 (.slice A1 a2 c1)) (fun k hk => by have := (World.ownsRow.lt q1 k hk).1; omega))
  have hbg2 : Below g W (w1.setCell ⟨g, 5, none⟩ (.slice A1 a2 c1)) := (hbg.trans (q2.mono hggV)).setCell (p := ⟨g, 5, none⟩) (Nat.le_refl g) _
  have hH2 := Lib.hid ((HHg.out.below hbg2).more (by have := hW2; omega))
  clear e1 d5 f5 l1 c5 cl q1 hb0 kc kr hS1
  obtain ⟨W2, hW2e⟩ : ∃ W2, (w1.setCell ⟨g, 5, none⟩ (.slice A1 a2 c1)) = W2 := ⟨_, rfl⟩
  rw [hW2e] at hb2 kc2 kr2 hW2 o2 hH2 hbg2 ⊢
  clear hW2e
  have c7 := kc2.cell 7
  have cl := kc2.lt
  have hgW2 : z ≤ W2.heap.size := by omega
  have hgl2 : g < W2.heap.size := kc2.lt
  go_upto_region 6 with (first | (at_builtin; go_loud (refine wpList_app_partsC _ rfl (.const (.slice none 0 0)) (.tmp 32) rfl W2.heap.size _ [] rfl (OwnP.nil _ _) b1 b2 b3 _ x.c.held rfl hH2.out (by simp; omega) (Nat.le_refl _) ?_; intro v2 w2 q1 q3; rw [List.nil_append] at q1; obtain ⟨A2, c2, rfl⟩ := q1.form_ (n := b2) hH2.out.1.symm; have e1 := kc2.below q3 kc2.lt; have d7 := e1.cell 7; have f7 := e1.frozen 7; have l1 := e1.lt)))
  have hb3 : Below z w (w2.setCell ⟨g, 7, none⟩ (.slice A2 b2 c2)) := (hb2.trans (q3.mono hgW2)).setCell (p := ⟨g, 7, none⟩) (Nat.le_of_lt hzg) _
  have kc3 : Blk (w2.setCell ⟨g, 7, none⟩ (.slice A2 b2 c2)) g 85 #[.int .i64 x.c.who, .int .i64 x.c.rev, .int .i64 x.c.seq, .string x.c.text, .bool x.c.fly, .slice A1 a2 c1, .bool x.c.wait, .slice A2 b2 c2] := e1.set_ 7 _
  have kr3 : Blk (w2.setCell ⟨g, 7, none⟩ (.slice A2 b2 c2)) z 85 #[.int .i64 0, .int .i64 0, .int .i64 0, .string ⟨#[]⟩, .bool false, .slice none 0 0, .bool false, .slice none 0 0] := (kr2.below q3 kr2.lt).far (p := ⟨g, 7, none⟩) (by simp only; omega) _
  have o3 := Lib.hid (own_only (own_below o2.out q3) (Only.setSelf w2 g 7 (.slice A2 b2 c2)) (fun k hk => by have := (World.ownsRow.lt o2.out k hk).1; omega))
  have o4 := Lib.hid (own_only q1 (Only.setSelf w2 g 7 (.slice A2 b2 c2)) (fun k hk => by have := (World.ownsRow.lt q1 k hk).1; omega))
  clear e1 d7 f7 l1 c7 cl q1 hb2 kc2 kr2 hH2 o2
  obtain ⟨W3, hW3e⟩ : ∃ W3, (w2.setCell ⟨g, 7, none⟩ (.slice A2 b2 c2)) = W3 := ⟨_, rfl⟩
  rw [hW3e] at hb3 kc3 kr3 o3 o4 ⊢
  clear hW3e
  go_wp2_with (first
    | (refine wpList_load_blk rfl _ (.tmp 6) rfl g rfl _ (client_row kc3 rfl) ?_)
    | (refine wpList_store_blk rfl _ (.tmp 4) (.tmp 35) rfl z _ rfl rfl _ _ kr3 client_info rfl (by simp [Value.oneCell']) ?_))
  refine row_end2 rfl rfl rfl rfl (client_row (kr3.row #[.int .i64 x.c.who, .int .i64 x.c.rev, .int .i64 x.c.seq, .string x.c.text, .bool x.c.fly, .slice A1 a2 c1, .bool x.c.wait, .slice A2 b2 c2]) rfl) ?_
  refine ⟨_, _, _, _, _, _, rfl, ?_, ?_, HZw.out.symm ▸ below_setRow hb3 z _ (Nat.le_refl _)⟩
  · exact own_base (own_only o3.out (Only.setRow W3 z _) (fun k hk => by have := (World.ownsRow.lt o3.out k hk).1; omega)) (by rw [HZw.out]; omega)
  · exact own_base (own_only o4.out (Only.setRow W3 z _) (fun k hk => by have := (World.ownsRow.lt o4.out k hk).1; omega)) (by rw [HZw.out]; omega)
theorem wclient_B {w : World} {B q : Nat} {s : Sh} {X : List St} {put edits : Int} {e : Nat → Nat} (h : WdB w B q s X put edits e) {i : Nat} {x : St} (hx : X[i]? = some x) :
    Calls Try.prog 48 #[.pointer (some ⟨q, 0, none⟩), .int .i64 i] w fun e w' => ∃ A1 n1 c1 A2 n2 c2, e = .returned (.tuple #[clv x.c (A1, n1, c1) (A2, n2, c2), .int .i64 0]) ∧ OwnP w' w.heap.size (.slice A1 n1 c1) x.c.sent ∧ OwnP w' w.heap.size (.slice A2 n2 c2) x.c.held ∧ Below w.heap.size w w' := by
  obtain ⟨F, sq, gs, cap, E, sp, hM, _⟩ := h.1
  exact wclient_any w F q sq gs cap E sp s X put edits hM i x hx (h.2.seat i x hx).ck
/-- the first seat has said something -/
def EvS (s : Sh) (X : List St) : Prop := ∃ x, X[0]? = some x ∧ 1 ≤ x.c.seq
theorem EvS.set {X : List St} {s s' : Sh} (h : EvS s X) {i : Nat} {x y : St} (hx : X[i]? = some x) (hy : x.c.seq ≤ y.c.seq) : EvS s' (X.set i y) := by
  obtain ⟨z, h1, h2⟩ := h
  have hl : 0 < X.length := (List.getElem?_eq_some_iff.1 h1).1
  by_cases hi : i = 0
  · subst hi
    rw [hx] at h1
    have h1 := Option.some.inj h1
    refine ⟨y, List.getElem?_set_self hl, ?_⟩
    rw [h1] at hy
    omega
  · exact ⟨z, by rw [List.getElem?_set_ne hi]; exact h1, h2⟩
theorem edit_seq (x : St) (d : List Pt) : x.c.seq ≤ (editS x d).c.seq := by
  have h : x.c.seq ≤ (edL x.c d).seq := by
    unfold edL
    split
    · show x.c.seq ≤ x.c.seq + 1
      omega
    · split <;> exact Int.le_refl _
  unfold editS
  split
  · exact h
  · exact h
theorem down_seq (r : Rv) (x : St) : x.c.seq ≤ (downS r x).c.seq := by
  have h : x.c.seq ≤ (inO x.c).seq := by
    show x.c.seq ≤ if x.c.wait then x.c.seq + 1 else x.c.seq
    split <;> omega
  unfold downS
  split
  · unfold ownS
    split
    · exact h
    · exact h
  · exact Int.le_refl _
theorem EvS.up {s s' : Sh} {X X' : List St} {i : Nat} {b : Bool} (h : EvS s X) (hu : UpR s X i b s' X') : EvS s' X' := by
  cases hu with
  | no x hx hu => exact h
  | yes x b d hx hu hE hl => exact h.set hx (Int.le_refl _)
theorem EvS.down {s : Sh} {X X' : List St} {i : Nat} {b : Bool} (h : EvS s X) (hd : DownR s X i b X') : EvS s X' := by
  cases hd with
  | no x hx ht => exact h
  | yes x hx ht => exact h.set hx (down_seq _ _)
theorem EvS.evw (put edits : Int) (e : Nat → Nat) : EvW put edits e EvS :=
  ⟨fun s X i b s' X' hW hu h => h.up hu, fun s X i b X' hW hd h => h.down hd⟩
theorem EvS.act {k i : Nat} {d : List Pt} {s s' : Sh} {X X' : List St} {put edits put' edits' : Int} {e e' : Nat → Nat} (h : EvS s X) (ha : ActR k i d s X put edits e s' X' put' edits' e') : EvS s' X' := by
  rcases ha with ⟨rfl, rfl, _⟩ | ⟨_, rfl, x, hx, hdo, rfl, _⟩ | ⟨_, _, _, _, ⟨b, hu⟩ | ⟨rfl, b, hd⟩⟩
  · exact h
  · exact h.set hx (edit_seq _ _)
  · exact h.up hu
  · exact h.down hd
theorem EvS.zero (n : Nat) (h : 1 ≤ n) : EvS shN (X0 n) := by
  refine ⟨editS (seat0 0) [(2, 0, ⟨#[97]⟩)], List.getElem?_set_self (by rw [seatsN, List.length_map, List.length_range]; omega), ?_⟩
  show (1 : Int) ≤ _
  decide +kernel
/-- a calm world in which the first seat said something has a revision -/
theorem EvS.revs {s : Sh} {X : List St} {put edits : Int} {e : Nat → Nat} (h : EvS s X) (hW : WI s X put edits e) (hc : calmW s X) : 1 ≤ cntW 0 s.log.revs ∧ 1 ≤ s.log.revs.length := by
  obtain ⟨x, h1, h2⟩ := h
  have := (hW.calm hc h1).2.2.2.2.2
  have h3 : 1 ≤ cntW 0 s.log.revs := by
    have h4 : (x.c.seq : Int) = (cntW ((0 : Nat) : Int) s.log.revs : Nat) := this
    have h5 : (((0 : Nat) : Int)) = 0 := rfl
    rw [h5] at h4
    omega
  refine ⟨h3, ?_⟩
  cases hr : s.log.revs with
  | nil => rw [hr] at h3; simp [cntW] at h3
  | cons r l => simp
end Go.Proofs.Ytmnnaemcjmiplaa
