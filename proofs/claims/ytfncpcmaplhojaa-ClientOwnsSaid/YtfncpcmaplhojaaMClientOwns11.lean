/- Contracts of catchup.Of. Who comes late; plain lists, no program. scrivkeep's helpers over room: spoil. Contracts of slices.Equal over parts, scrivref.Same, scrivref.In, scrivref.All, scrivkeep.All, scrivkeep.put. scrivkeep's helpers over room: roomy. scrivkeep's helpers over room: mark, filledUp. slices.Clone of parts. spoil of a row of the call's own. Slices of ints: read, searched, compared. -/
import Derived.Test.YtfncpcmaplhojaaMClientOwns9
import Derived.Test.YtfncpcmaplhojaaMClientOwns10
import Derived.Test.YtfncpcmaplhojaaMClientOwns6
import Derived.Test.YtfncpcmaplhojaaMClientOwns3
import Derived.Test.YtfncpcmaplhojaaMClientOwns4
import Derived.Deep.DeepAppendRoom
import Derived.Laws.AppendOwnNone
import Derived.Test.YtfncpcmaplhojaaMClientOwns1
namespace Go.Proofs.Ytfncpcmaplhojaa
open Go.ChangeShapes Go.WideShapes Go.RowKit
set_option linter.unusedVariables false
set_option linter.unusedSimpArgs false
set_option maxRecDepth 100000
set_option maxHeartbeats 4000000

theorem results_tmp4 {fn : Func} {t u v x : Tmp} (h : fn.results = #[.tmp t, .tmp u, .tmp v, .tmp x]) (tmps : Array Value) (P : Program) (w : World) :
    (results fn tmps).run P w = .ok (.tuple #[tmps.getD t undef, tmps.getD u undef, tmps.getD v undef, tmps.getD x undef]) w := by
  simp [results, h]
def btwL (base : ByteArray) (l : List Rv) (i k : Nat) : List Pt := btw (allL (txt base l i).size) ((l.drop i).take (k - i))
theorem meet_rdm (a b : List Pt) (A A' : Option Addr) (n n' c c' : Nat) (w : World) (h : RdP w w.heap.size A n c a) (h' : RdP w w.heap.size A' n' c' b) (z : Int) (x y : List Pt) (hz : meetE a b = z) (hx : meetC a b = x) (hy : meetD a b = y) :
    Calls Try.prog 71 #[.slice A n c, .slice A' n' c'] w fun e w' => ∃ A1 n1 c1 A2 n2 c2, e = .returned (.tuple #[.slice A1 n1 c1, .slice A2 n2 c2, .int .i64 z]) ∧
      RdP w' w'.heap.size A1 n1 c1 x ∧ RdP w' w'.heap.size A2 n2 c2 y ∧ Below w.heap.size w w' := by
  subst hz; subst hx; subst hy
  refine (meet_rd a b A A' n n' c c' w h h').mono ?_
  rintro e w' ⟨A1, c1, A2, c2, rfl, h1, h2, hb⟩
  exact ⟨_, _, _, _, _, _, rfl, h1, h2, hb⟩
/-- what goes wrong -/
def CaErr (base : ByteArray) (l : List Rv) (r : Int) (mine : List Pt) (E : Int) : Prop :=
  E ≠ 0 ∧ ((txE base l = E) ∨ (txE base l = 0 ∧ (r < 0 ∨ (l.length : Int) < r) ∧ E = 1) ∨ ∃ k : Nat, r = (k : Int) ∧ k ≤ l.length ∧ txE base l = 0 ∧ (doE mine (txt base l k) = E ∨ (doE mine (txt base l k) = 0 ∧ meetE (btwL base l k l.length) mine = E)))
/-- all goes well -/
def CaOk (base : ByteArray) (l : List Rv) (k : Nat) (mine : List Pt) : Prop := k ≤ l.length ∧ txE base l = 0 ∧ doE mine (txt base l k) = 0 ∧ meetE (btwL base l k l.length) mine = 0
theorem ca_cases (base : ByteArray) (l : List Rv) (r : Int) (mine : List Pt) : (∃ E, CaErr base l r mine E) ∨ ∃ k : Nat, r = (k : Int) ∧ CaOk base l k mine := by
  by_cases h1 : txE base l = 0
  · by_cases h2 : r < 0 ∨ (l.length : Int) < r
    · exact .inl ⟨1, by omega, .inr (.inl ⟨h1, h2, rfl⟩)⟩
    · obtain ⟨k, rfl⟩ : ∃ k : Nat, r = (k : Int) := ⟨r.toNat, by omega⟩
      by_cases h3 : doE mine (txt base l k) = 0
      · by_cases h4 : meetE (btwL base l k l.length) mine = 0
        · exact .inr ⟨k, rfl, by omega, h1, h3, h4⟩
        · exact .inl ⟨_, h4, .inr (.inr ⟨k, rfl, by omega, h1, .inr ⟨h3, rfl⟩⟩)⟩
      · exact .inl ⟨_, h3, .inr (.inr ⟨k, rfl, by omega, h1, .inl rfl⟩)⟩
  · exact .inl ⟨_, h1, .inl rfl⟩
end Go.Proofs.Ytfncpcmaplhojaa
namespace Go.Proofs.Ytfncpcmaplhojaa
set_option linter.unusedVariables false
set_option linter.unusedSimpArgs false

theorem meet_do {a b : List Pt} {s : ByteArray} (h : meetE a b = 0) (h1 : doE a s = 0) (h2 : doE b s = 0) : doE (meetD a b) (doS a s) = 0 ∧ doE (meetC a b) (doS b s) = 0 ∧ doS (meetD a b) (doS a s) = doS (meetC a b) (doS b s) := by
  have hg := meet_good h
  have hz := meet_sizes h
  have e1 : doE (meetD a b) (doS a s) = 0 := do_zero hg.2 (by rw [do_size h1, hz.2.1])
  have e2 : doE (meetC a b) (doS b s) = 0 := do_zero hg.1 (by rw [do_size h2, hz.1])
  refine ⟨e1, e2, ?_⟩
  rw [← (comp_do h1 e1).2.2, ← (comp_do h2 e2).2.2, (meet_comp h).2.2]
end Go.Proofs.Ytfncpcmaplhojaa
namespace Go.Proofs.Ytfncpcmaplhojaa
open Go.ChangeShapes Go.WideShapes Go.RowKit
set_option linter.unusedVariables false
set_option linter.unusedSimpArgs false
set_option maxRecDepth 100000
set_option maxHeartbeats 4000000

theorem spoil_any (p : Pt) (g n cap : Nat) (cur : Array Value) (w : World) (hb : Blk w g 45 cur) (hs : cur.size = cap * 3) (hn : n ≤ cap) (hc : cap ≤ maxLen) :
    Calls Try.prog 29 #[.slice (some ⟨g, 0, none⟩) n cap, pval p] w fun e w' => e = .returned (.tuple #[]) ∧ Only w w' (fun k => k = g) := by
  obtain ⟨kd, m, t⟩ := p
  have hcap : (cap : Int) ≤ 9223372036854775807 := by unfold maxLen at hc; omega
  have hnc : (n : Int) ≤ (cap : Int) := by omega
  have h0 : (0 : Int) ≤ (cap : Int) := by omega
  have Hs := Lib.hid hs
  have Hb := Lib.hid hb
  have hlt := hb.lt
  clear hs hb
  unfold pval
  go_enter Try.func29, Try.ntmps29
  go_wp2_with fail
  have Hx := Lib.hid (Blk.new w 45 #[.int .i64 kd, .int .i64 m, .string t])
  have Hg := Lib.hid (Hb.out.alloc (.cells #[.int .i64 kd, .int .i64 m, .string t] 45))
  have Ho := Lib.hid (Only.alloc (S := fun k => k = g) w (.cells #[.int .i64 kd, .int .i64 m, .string t] 45))
  generalize w.alloc (.cells #[.int .i64 kd, .int .i64 m, .string t] 45) = W at *
  obtain ⟨x, hx⟩ : ∃ x, w.heap.size = x := ⟨_, rfl⟩
  rw [hx] at Hx hlt ⊢
  go_loopw [4, 11] (fun uv iv wr => ∃ (k : Nat) (cs : Array Value), k ≤ cap ∧ iv = .int .i64 k ∧ Hid (cs.size = cap * 3) ∧ Hid (Blk wr g 45 cs) ∧ Hid (Blk wr x 45 #[.int .i64 kd, .int .i64 m, .string t]) ∧ Hid (Only w wr (fun k => k = g))) (fun _ iv _ => cap - (intOf iv).toNat)
  case atStart => exact ⟨0, cur, by omega, rfl, Hs, Hg, Hx, Ho⟩
  case round =>
    obtain ⟨k, cs, hk, rfl, hcs, hgb, hxb, ho⟩ := hrel
    by_cases hlt2 : k < cap
    · have hkc : (k : Int) < (cap : Int) := by omega
      have hk0 : (0 : Int) ≤ (k : Int) := by omega
      have hsz := hcs.out
      have a0 := hgb.out.cell (k * 3)
      have a1 := hgb.out.cell (k * 3 + 1)
      have a2 := hgb.out.cell (k * 3 + 2)
      obtain ⟨v0, e0⟩ : ∃ v, cs[k * 3]? = some v := ⟨cs[k * 3]'(by omega), Array.getElem?_eq_getElem (by omega)⟩
      obtain ⟨v1, e1⟩ : ∃ v, cs[k * 3 + 1]? = some v := ⟨cs[k * 3 + 1]'(by omega), Array.getElem?_eq_getElem (by omega)⟩
      obtain ⟨v2, e2⟩ : ∃ v, cs[k * 3 + 2]? = some v := ⟨cs[k * 3 + 2]'(by omega), Array.getElem?_eq_getElem (by omega)⟩
      rw [e0] at a0
      rw [e1] at a1
      rw [e2] at a2
      have f0 := hgb.out.frozen (k * 3)
      have f1 := hgb.out.frozen (k * 3 + 1)
      have f2 := hgb.out.frozen (k * 3 + 2)
      have x0 := hxb.out.cell 0
      have x1 := hxb.out.cell 1
      have x2 := hxb.out.cell 2
      have hxl := hxb.out.lt
      have hgl := hgb.out.lt
      clear e0 e1 e2 hsz
      have hxg : x ≠ g := by omega
      go_wp2_with fail
      go_roundw
      case rel =>
        refine ⟨k + 1, ((cs.setIfInBounds (k * 3) (.int .i64 kd)).setIfInBounds (k * 3 + 1) (.int .i64 m)).setIfInBounds (k * 3 + 2) (.string t), by omega, by go_num, Lib.hid (by simpa using hcs.out), Lib.hid (((hgb.out.set_ _ _).set_ _ _).set_ _ _), Lib.hid (((hxb.out.far hxg _).far hxg _).far hxg _), Lib.hid (((ho.out.trans (Only.setSelf _ _ _ _)).trans (Only.setSelf _ _ _ _)).trans (Only.setSelf _ _ _ _))⟩
      case measure => simp [intOf]; omega
    · obtain rfl : k = cap := by omega
      go_wp2_with fail
      go_end0
      exact ⟨rfl, ho.out⟩
end Go.Proofs.Ytfncpcmaplhojaa
namespace Go.Proofs.Ytfncpcmaplhojaa
open Go.ChangeShapes Go.WideShapes Go.RowKit
set_option linter.unusedVariables false
set_option linter.unusedSimpArgs false
set_option maxRecDepth 100000
set_option maxHeartbeats 4000000

/-- a slice that a buildSlice has just made of parts -/
theorem RdP.built (w : World) (cs : Array Value) (l : List Pt) (n : Nat) (hn : n = l.length) (hc : cs.toList = pc l) (hm : n ≤ maxLen) (ht : ∀ p ∈ l, p.2.2.size ≤ 140737488351232) :
    RdP (w.alloc (.cells cs 45)) (w.heap.size + 1) (some ⟨w.heap.size, 0, none⟩) n n l := by
  refine ⟨hn, ?_, ht⟩
  rw [← hc]
  exact Rd.built w _ cs (by have := congrArg List.length hc; simp only [Array.length_toList, pc_len] at this; omega) hm
theorem RdP.builtS (w : World) (cs : Array Value) (l : List Pt) (n : Nat) (hn : n = l.length) (hc : cs.toList = pc l) (hm : n ≤ maxLen) (ht : ∀ p ∈ l, p.2.2.size ≤ 140737488351232) :
    RdP (w.alloc (.cells cs 45)) (w.alloc (.cells cs 45)).heap.size (some ⟨w.heap.size, 0, none⟩) n n l := by
  rw [World.size_alloc]; exact RdP.built w cs l n hn hc hm ht
theorem put_any (s : ByteArray) (hs : s.size ≤ 140737488351232) (w : World) :
    Calls Try.prog 19 #[.string s] w fun e w' => ∃ A, e = .returned (.slice A 1 1) ∧ RdP w' w'.heap.size A 1 1 [(2, 0, s)] ∧ Below w.heap.size w w' := by
  have hr := RdP.built w #[.int .i64 2, .int .i64 0, .string s] [(2, 0, s)] 1 rfl rfl (by decide) (by simpa using hs)
  have Hr := Lib.hid hr
  clear hr
  go_enter Try.func19, Try.ntmps19
  go_wp2_with fail
  go_ret
  exact ⟨_, rfl, by simpa using Hr.out, (Below.refl _ _).alloc (Nat.le_refl _) _⟩
theorem same_long (l l' : List Pt) (A A' : Option Addr) (n n' c c' B B' : Nat) (w : World) (h : RdP w B A n c l) (h' : RdP w B' A' n' c' l') (e : n ≠ n') :
    Calls Try.prog 58 #[.slice A n c, .slice A' n' c'] w fun e w' => e = .returned (.bool (decide (l = l'))) ∧ Below w.heap.size w w' := by
  have hne : decide (l = l') = false := by
    rw [decide_eq_false_iff_not]
    rintro rfl
    exact e (h.1.trans h'.1.symm)
  have hb : ((n : Int) == (n' : Int)) = false := by simp; omega
  have h1 := h.le
  have h2 := h'.le
  rw [hne]
  clear h h' hne
  go_enter Try.func58, Try.ntmps58
  go_wp2_with fail
  go_ret
  exact ⟨rfl, Below.refl _ _⟩
theorem same_same (l l' : List Pt) (A A' : Option Addr) (n c c' B B' : Nat) (w : World) (h : RdP w B A n c l) (h' : RdP w B' A' n c' l') :
    Calls Try.prog 58 #[.slice A n c, .slice A' n c'] w fun e w' => e = .returned (.bool (decide (l = l'))) ∧ Below w.heap.size w w' := by
  have hle := h.le
  have H := Lib.hid h
  have H' := Lib.hid h'
  obtain ⟨R, hR⟩ : ∃ R, decide (l = l') = R := ⟨_, rfl⟩
  rw [hR]
  have HR := Lib.hid hR
  clear h h' hR
  go_enter Try.func58, Try.ntmps58
  go_wp2_with fail
  go_loopw [5, 13] (fun i0 i wr => ∃ (k q : Nat), k ≤ n ∧ i = .int .i64 k ∧ wr = w.drewN q ∧ Hid (l.take k = l'.take k)) (fun _ i _ => n - (intOf i).toNat)
  case atStart => exact ⟨0, 0, by omega, rfl, rfl, Lib.hid rfl⟩
  case round =>
    obtain ⟨k, q, hk, rfl, rfl, htk⟩ := hrel
    by_cases hlt : k < n
    · obtain ⟨b, o, rfl, hb, c0, c1, c2⟩ := H.out.at_ k hlt
      obtain ⟨b', o', rfl, hb', c0', c1', c2'⟩ := H'.out.at_ k hlt
      have hkl : k < l.length := by have := H.out.1; omega
      have hkl' : k < l'.length := by have := H'.out.1; omega
      have hs : Hid (l.take (k + 1) = l.take k ++ [l[k]]) := Lib.hid (by rw [List.take_succ_eq_append_getElem hkl])
      have hs' : Hid (l'.take (k + 1) = l'.take k ++ [l'[k]]) := Lib.hid (by rw [List.take_succ_eq_append_getElem hkl'])
      have hd : Hid (l[k] ≠ l'[k] → R = false) := Lib.hid fun h => by
        rw [← HR.out, decide_eq_false_iff_not]
        rintro rfl
        exact h rfl
      generalize l[k] = p at *
      generalize l'[k] = p' at *
      obtain ⟨kd, m, t⟩ := p
      obtain ⟨kd', m', t'⟩ := p'
      simp only at c0 c1 c2 c0' c1' c2'
      have hk0 : (0 : Int) ≤ (k : Int) := by omega
      have hkn : (k : Int) < (n : Int) := by omega
      by_cases e0 : kd = kd'
      · subst e0
        by_cases e1 : m = m'
        · subst e1
          by_cases e2 : t = t'
          · subst e2
            clear hd
            go_wp2_with fail
            go_region
            all_goals
              go_wp2_with fail
              go_roundw
              case rel => exact ⟨k + 1, q + 1, by omega, by go_num, rfl, Lib.hid (by rw [hs.out, hs'.out, htk.out])⟩
              case measure => simp [intOf]; omega
          · have hl : ¬ t.toList = t'.toList := fun h => e2 (bs_ext (by rw [← ByteArray.toList_eq, ← ByteArray.toList_eq]; exact h))
            have hR : R = false := hd.out (by simp; exact e2)
            subst hR
            clear e2 hd
            go_wp2_with fail
            go_region
            all_goals
              go_wp2_with fail
              go_ret
              exact ⟨rfl, below_drewN_ (Below.refl _ _) (q + 1)⟩
        · have hR : R = false := hd.out (by simp; intro h; exact absurd h e1)
          subst hR
          clear hd
          go_wp2_with fail
          go_region
          all_goals
            go_wp2_with fail
            go_ret
            exact ⟨rfl, below_drewN_ (Below.refl _ _) (q + 1)⟩
      · have hR : R = false := hd.out (by simp; intro h; exact absurd h e0)
        subst hR
        clear hd
        go_wp2_with fail
        go_region
        all_goals
          go_wp2_with fail
          go_ret
          exact ⟨rfl, below_drewN_ (Below.refl _ _) (q + 1)⟩
    · have hR : R = true := by
        rw [← HR.out, decide_eq_true_iff]
        have h1 := htk.out
        have h2 := H.out.1
        have h3 := H'.out.1
        rwa [List.take_of_length_le (by omega), List.take_of_length_le (by omega)] at h1
      subst hR
      go_wp2_with fail
      go_ret
      exact ⟨rfl, below_drewN_ (Below.refl _ _) q⟩
theorem same_any (l l' : List Pt) (A A' : Option Addr) (n n' c c' B B' : Nat) (w : World) (h : RdP w B A n c l) (h' : RdP w B' A' n' c' l') :
    Calls Try.prog 18 #[.slice A n c, .slice A' n' c'] w fun e w' => e = .returned (.bool (decide (l = l'))) ∧ Below w.heap.size w w' := by
  have hcall : Calls Try.prog 58 #[.slice A n c, .slice A' n' c'] w fun e w' => e = .returned (.bool (decide (l = l'))) ∧ Below w.heap.size w w' := by
    by_cases e : n = n'
    · subst e; exact same_same l l' A A' n c c' B B' w h h'
    · exact same_long l l' A A' n n' c c' B B' w h h' e
  generalize decide (l = l') = R at *
  have Hc := Lib.hid hcall
  clear h h' hcall
  go_enter Try.func18, Try.ntmps18
  go_wp2_with fail
  refine Hc.out.mono ?_
  rintro e w1 ⟨rfl, hb⟩
  go_wp2_with fail
  go_ret
  exact ⟨rfl, hb⟩
theorem same_true (l l' : List Pt) (A A' : Option Addr) (n n' c c' B B' : Nat) (w : World) (h : RdP w B A n c l) (h' : RdP w B' A' n' c' l') (e : l = l') :
    Calls Try.prog 18 #[.slice A n c, .slice A' n' c'] w fun e w' => e = .returned (.bool true) ∧ Below w.heap.size w w' := by
  have := same_any l l' A A' n n' c c' B B' w h h'
  rwa [decide_eq_true e] at this
theorem refall_any (n : Int) (w : World) :
    Calls Try.prog 57 #[.int .i64 n] w fun e w' => ∃ A c, e = .returned (.slice A (allL n).length c) ∧ RdP w' w'.heap.size A (allL n).length c (allL n) ∧ Below w.heap.size w w' := by
  by_cases h : n = 0
  · subst h
    go_enter Try.func57, Try.ntmps57
    go_wp2_with fail
    go_ret
    exact ⟨none, 0, rfl, ⟨rfl, Rd.nil _ _ _, by simp [allL]⟩, Below.refl _ _⟩
  · have hn : (n == 0) = false := by simpa using h
    have hr := RdP.built w #[.int .i64 1, .int .i64 n, .string ⟨#[]⟩] [(1, n, emp)] 1 rfl rfl (by decide) (by simp [emp]; decide)
    have Hr := Lib.hid hr
    have ha : Hid (allL n = [(1, n, emp)]) := Lib.hid (by unfold allL; rw [if_neg h])
    rw [ha.out]
    clear hr h ha
    go_enter Try.func57, Try.ntmps57
    go_wp2_with fail
    go_ret
    exact ⟨_, _, rfl, by simpa using Hr.out, (Below.refl _ _).alloc (Nat.le_refl _) _⟩
theorem all_any (n : Int) (w : World) :
    Calls Try.prog 17 #[.int .i64 n] w fun e w' => ∃ A c, e = .returned (.slice A (allL n).length c) ∧ RdP w' w'.heap.size A (allL n).length c (allL n) ∧ Below w.heap.size w w' := by
  obtain ⟨L, hL⟩ : ∃ L, allL n = L := ⟨_, rfl⟩
  have hcall := refall_any n w
  rw [hL] at hcall ⊢
  have Hc := Lib.hid hcall
  clear hcall hL
  go_enter Try.func17, Try.ntmps17
  go_wp2_with fail
  refine Hc.out.mono ?_
  rintro e w1 ⟨A, c, rfl, hr, hb⟩
  have Hr := Lib.hid hr
  clear hr
  go_wp2_with fail
  go_ret
  exact ⟨_, _, rfl, Hr.out, hb⟩
end Go.Proofs.Ytfncpcmaplhojaa
namespace Go.Proofs.Ytfncpcmaplhojaa
open Go.ChangeShapes Go.WideShapes Go.RowKit
set_option linter.unusedVariables false
set_option linter.unusedSimpArgs false
set_option maxRecDepth 100000
set_option maxHeartbeats 4000000

theorem take_set3 (l : List Value) (j : Nat) (a b c : Value) (h : j * 3 + 3 ≤ l.length) :
    (((l.set (j * 3) a).set (j * 3 + 1) b).set (j * 3 + 2) c).take ((j + 1) * 3) = l.take (j * 3) ++ [a, b, c] := by
  apply List.ext_getElem?
  intro i
  rw [List.getElem?_take]
  by_cases h1 : i < j * 3
  · rw [if_pos (by omega), List.getElem?_append_left (by rw [List.length_take]; omega), List.getElem?_take, if_pos h1,
      List.getElem?_set_ne (by omega), List.getElem?_set_ne (by omega), List.getElem?_set_ne (by omega)]
  · have hl : (l.take (j * 3)).length = j * 3 := by rw [List.length_take]; omega
    rw [List.getElem?_append_right (by omega), hl]
    by_cases h2 : i = j * 3
    · subst h2
      rw [if_pos (by omega), List.getElem?_set_ne (by omega), List.getElem?_set_ne (by omega), List.getElem?_set_self (by omega)]
      simp
    · by_cases h3 : i = j * 3 + 1
      · subst h3
        rw [if_pos (by omega), List.getElem?_set_ne (by omega), List.getElem?_set_self (by rw [List.length_set]; omega)]
        simp
      · by_cases h4 : i = j * 3 + 2
        · subst h4
          rw [if_pos (by omega), List.getElem?_set_self (by rw [List.length_set, List.length_set]; omega)]
          simp
        · rw [if_neg (by omega)]
          obtain ⟨m, rfl⟩ : ∃ m, i = j * 3 + 3 + m := ⟨i - (j * 3 + 3), by omega⟩
          rw [show j * 3 + 3 + m - j * 3 = m + 3 by omega]
          rfl
/-- a list with room behind it, in which p stands three times -/
def Room (w : World) (B g n : Nat) (l : List Pt) : Prop := B ≤ g ∧ ∃ cs : Array Value, Blk w g 45 cs ∧ cs.size = (n + 3) * 3 ∧ cs.toList = pc l
theorem room_step (cs : Array Value) (l : List Pt) (j N : Nat) (kd m : Int) (t : ByteArray) (hs : cs.size = N * 3) (hj : j < N) (ht : cs.toList.take (j * 3) = pc l) :
    (((cs.setIfInBounds (j * 3) (.int .i64 kd)).setIfInBounds (j * 3 + 1) (.int .i64 m)).setIfInBounds (j * 3 + 2) (.string t)).toList.take ((j + 1) * 3) = pc (l ++ [(kd, m, t)]) := by
  rw [Array.toList_setIfInBounds, Array.toList_setIfInBounds, Array.toList_setIfInBounds, take_set3 _ _ _ _ _ (by rw [Array.length_toList, hs]; omega), ht, pc_append]
  rfl
theorem room_src {w : World} {B n c : Nat} {ad : Addr} {l : List Pt} (h : RdP w B (some ad) n c l) : ∀ j u, (pc l)[j]? = some u → w.cell? (ad.add j) = some u := by
  intro j u hj
  by_cases h0 : 0 < n
  · obtain ⟨b, o, e, hb, hc⟩ := h.2.1.2.2.2 h0
    obtain rfl := Option.some.inj e
    have := hc j u hj
    by_cases h00 : j = 0
    · subst h00; simpa [Addr.add] using this
    · simpa [Addr.add, h00] using this
  · have : l.length = 0 := by rw [← h.1]; omega
    rw [List.length_eq_zero_iff] at this
    subst this
    simp [pc] at hj
theorem pc_one (l : List Pt) : ∀ u ∈ pc l, u.oneCell' = true := by
  intro u hu
  unfold pc at hu
  obtain ⟨p, _, hp⟩ := List.mem_flatMap.1 hu
  simp only [pcells, List.mem_cons, List.not_mem_nil, or_false] at hp
  rcases hp with rfl | rfl | rfl <;> rfl
/-- append of parts where there is room -/
theorem wpList_app_room {ops : Array Oper} {rest : List Oper} {o : Oper} {a : Act} {Q : Exit → Act → World → Prop} (w : World) (hgd : o.guard = none) (s x : Operand)
    (ho : o.op = .call { callee := .builtin .append, args := #[s, x], argTypes := #[27, 27] })
    (B g N : Nat) (hs : a.eval s = .slice (some ⟨g, 0, none⟩) 0 N) (hown : w.ownsRow B 45 3 (.slice (some ⟨g, 0, none⟩) 0 N) 0 [])
    (A : Option Addr) (n c B' : Nat) (l : List Pt) (hx : a.eval x = .slice A n c) (hr : RdP w B' A n c l) (hA : A = none → c = 0) (hn : n ≤ N)
    (h : ∀ w', w'.ownsRow B 45 3 (.slice (some ⟨g, 0, none⟩) n N) n (pc l) → w.grownBy w' (some g) → wpList Try.prog ops Q rest (a.put o.dst (.slice (some ⟨g, 0, none⟩) n N)) w') :
    wpList Try.prog ops Q (o :: rest) a w := by
  obtain ⟨i0, hi, hz0, hz1, hz2⟩ := info_parts Try.info_part
  cases A with
  | none =>
    obtain rfl := hA rfl
    obtain rfl : n = 0 := by have := hr.2.1.1; omega
    have e : l = [] := by rw [← List.length_eq_zero_iff, ← hr.1]
    subst e
    exact wpList_append_own_none hgd s x 27 ho B 45 i0 3 Try.underlying27 hi _ 0 [] hs hown hx (h w hown ⟨rfl, rfl, rfl, Nat.le_refl _, fun _ _ _ => rfl⟩)
  | some ad =>
    refine wpList_append_own_spare w hgd s x 27 ho B 45 i0 3 Try.underlying27 hi hz1 _ _ _ _ hs hown ad n c (pc l) hx (by rw [pc_len, hr.1]) (room_src hr) (pc_one l) (by omega) ?_
    intro w' h1 h2
    rw [Nat.zero_add, List.nil_append] at h1
    rw [Nat.zero_add]
    exact h w' h1 h2
theorem roomy_any (l : List Pt) (p : Pt) (A : Option Addr) (n c : Nat) (w : World) (h : RdP w w.heap.size A n c l) (hn : n ≤ 4398046511104) (hA : A = none → c = 0) :
    Calls Try.prog 25 #[.slice A n c, pval p] w fun e w' => ∃ g, e = .returned (.slice (some ⟨g, 0, none⟩) n (n + 3)) ∧ Room w' w.heap.size g n (l ++ [p, p, p]) ∧ Below w.heap.size w w' := by
  obtain ⟨kd, m, t⟩ := p
  have H := Lib.hid h
  have hle := h.le
  have HA := Lib.hid hA
  clear h hA
  obtain ⟨i0, hi, hz0, hz1, hz2⟩ := info_parts Try.info_part
  obtain ⟨N, hNn⟩ : ∃ N, n + 3 = N := ⟨_, rfl⟩
  have hN : (n : Int) + 3 = (N : Int) := by omega
  have HN := Lib.hid hN
  have HNn := Lib.hid hNn
  clear hN hNn
  unfold pval
  go_enter Try.func25, Try.ntmps25
  go_wp2_with (first
    | (at_make; refine wpList_make_own _ rfl _ _ 27 rfl w.heap.size 45 i0 _ 3 Try.underlying27 hi hz0 hz1 _ _ _ N rfl rfl HN.out (by rw [hz2]; have := HNn.out; omega) (by simp only [maxLen]; have := HNn.out; omega) (by simp) ?_; intro w2 hown2 hg2; simp only [World.size_alloc] at hown2)
    | (at_builtin; refine wpList_app_room _ rfl (.tmp 10) (.tmp 11) rfl w.heap.size _ N rfl hown2 A n c _ l rfl ((H.out.stepA _).step (below_grown hg2 (Nat.le_refl _) (by simp))) HA.out (by have := HNn.out; omega) ?_; intro w3 hown3 hg3))
  have hx := (((Blk.new w 45 #[.int .i64 kd, .int .i64 m, .string t]).grown hg2 (by simp)).grown hg3 (by simp))
  have hb3 : Below w.heap.size w w3 := ((Below.refl w.heap.size w).alloc (Nat.le_refl _) _).trans ((below_grown hg2 (by simp) (by simp)).trans (below_grown hg3 (by have := hg2.size; simp at this; omega) (by simp)))
  obtain ⟨cs0, hB0, hS0, hT0⟩ : ∃ cs : Array Value, Blk w3 (w.heap.size + 1) 45 cs ∧ cs.size = N * 3 ∧ cs.toList.take (n * 3) = pc l := by
    rcases hown3.2 with ⟨h', _⟩ | ⟨g', cap', cur, h', hb, hg, hnc, hcm, hcs, htake⟩
    · simp at h'
    · simp only [Value.slice.injEq, Option.some.injEq, Addr.mk.injEq, and_true, true_and] at h'
      obtain ⟨rfl, rfl⟩ := h'
      exact ⟨cur, hg, hcs, htake⟩
  have hg1 : w.heap.size ≤ w.heap.size + 1 := by omega
  have hxg : w.heap.size ≠ w.heap.size + 1 := by omega
  clear hown2 hown3 hg2 hg3 w2 hi hz0 hz1 hz2
  obtain ⟨g, hg⟩ : ∃ g, w.heap.size + 1 = g := ⟨_, rfl⟩
  obtain ⟨x, hx0⟩ : ∃ x, w.heap.size = x := ⟨_, rfl⟩
  rw [hg] at hB0 hg1 hxg ⊢
  rw [hx0] at hx hxg hb3 hg1 ⊢
  have HX := Lib.hid hx
  have HB := Lib.hid hB0
  have HS := Lib.hid hS0
  have HT := Lib.hid hT0
  have H3 := Lib.hid hb3
  clear hx hB0 hS0 hT0 hb3 hg
  go_loopw [6, 13] (fun uv iv wr => ∃ (k : Nat) (cs : Array Value), k ≤ 3 ∧ iv = .int .i64 k ∧ Hid (cs.size = N * 3) ∧ Hid (cs.toList.take ((n + k) * 3) = pc (l ++ List.replicate k (kd, m, t))) ∧ Hid (Blk wr g 45 cs) ∧ Hid (Blk wr x 45 #[.int .i64 kd, .int .i64 m, .string t]) ∧ Hid (Below x w wr)) (fun _ iv _ => 3 - (intOf iv).toNat)
  case atStart => exact ⟨0, cs0, by omega, rfl, HS, Lib.hid (by simpa using HT.out), HB, HX, H3⟩
  case round =>
    obtain ⟨k, cs, hk, rfl, hcs, hct, hgb, hxb, hbw⟩ := hrel
    by_cases hlt2 : k < 3
    · have hkc : (k : Int) < 3 := by omega
      have hk0 : (0 : Int) ≤ (k : Int) := by omega
      have hn3 := HNn.out
      obtain ⟨j, hj⟩ : ∃ j, n + k = j := ⟨_, rfl⟩
      have hsz := hcs.out
      have hjN : j < N := by omega
      have a0 := hgb.out.cell (j * 3)
      have a1 := hgb.out.cell (j * 3 + 1)
      have a2 := hgb.out.cell (j * 3 + 2)
      obtain ⟨v0, e0⟩ : ∃ v, cs[j * 3]? = some v := ⟨cs[j * 3]'(by omega), Array.getElem?_eq_getElem (by omega)⟩
      obtain ⟨v1, e1⟩ : ∃ v, cs[j * 3 + 1]? = some v := ⟨cs[j * 3 + 1]'(by omega), Array.getElem?_eq_getElem (by omega)⟩
      obtain ⟨v2, e2⟩ : ∃ v, cs[j * 3 + 2]? = some v := ⟨cs[j * 3 + 2]'(by omega), Array.getElem?_eq_getElem (by omega)⟩
      rw [e0] at a0
      rw [e1] at a1
      rw [e2] at a2
      have f0 := hgb.out.frozen (j * 3)
      have f1 := hgb.out.frozen (j * 3 + 1)
      have f2 := hgb.out.frozen (j * 3 + 2)
      have x0 := hxb.out.cell 0
      have x1 := hxb.out.cell 1
      have x2 := hxb.out.cell 2
      have hxl := hxb.out.lt
      have hgl := hgb.out.lt
      have hw1 : IntKind.i64.wrap ((n : Int) + 3) = (N : Int) := by rw [HN.out]; exact IntWalk.i64_in _ (by omega)
      have hw2 : IntKind.i64.wrap ((n : Int) + (k : Int)) = (j : Int) := by rw [show (n : Int) + (k : Int) = (j : Int) by omega]; exact IntWalk.i64_in _ (by omega)
      have hl1 : (j : Int) < (N : Int) := by omega
      have hl0 : (0 : Int) ≤ (j : Int) := by omega
      have hl2 : (0 : Int) ≤ (N : Int) := by omega
      have Hj := Lib.hid hj
      have hjt : (j : Int).toNat = j := by omega
      have hNt : (N : Int).toNat = N := by omega
      clear e0 e1 e2 hsz hn3 hj
      go_wp2_with fail
      go_region
      go_wp2_with fail
      go_roundw
      case rel =>
        refine ⟨k + 1, ((cs.setIfInBounds (j * 3) (.int .i64 kd)).setIfInBounds (j * 3 + 1) (.int .i64 m)).setIfInBounds (j * 3 + 2) (.string t), by omega, by go_num, Lib.hid (by simpa using hcs.out), ?_, ?_, ?_, ?_⟩
        · have h1 := room_step cs (l ++ List.replicate k (kd, m, t)) j N kd m t hcs.out hjN (by rw [← Hj.out]; exact hct.out)
          rw [← Hj.out] at h1 ⊢
          rw [List.replicate_succ', ← List.append_assoc]
          exact Lib.hid h1
        · exact Lib.hid ((((hgb.out.set_ _ _).set_ _ _).set_ _ _).drew)
        · exact Lib.hid ((((hxb.out.far hxg _).far hxg _).far hxg _).drew)
        · exact Lib.hid ((((hbw.out.setCell (p := ⟨g, j * 3, none⟩) hg1 _).setCell (p := ⟨g, j * 3 + 1, none⟩) hg1 _).setCell (p := ⟨g, j * 3 + 2, none⟩) hg1 _).drew)
      case measure => simp [intOf]; omega
    · obtain rfl : k = 3 := by omega
      go_wp2_with fail
      go_ret
      have hn3 := HNn.out
      have hc3 := hct.out
      rw [hn3] at hc3
      subst hn3
      subst hx0
      refine ⟨g, rfl, ⟨hg1, cs, hgb.out, hcs.out, ?_⟩, hbw.out⟩
      rw [List.take_of_length_le (by rw [Array.length_toList, hcs.out]; omega)] at hc3
      exact hc3
end Go.Proofs.Ytfncpcmaplhojaa
namespace Go.Proofs.Ytfncpcmaplhojaa
open Go.ChangeShapes Go.WideShapes Go.RowKit
set_option linter.unusedVariables false
set_option linter.unusedSimpArgs false
set_option maxRecDepth 100000
set_option maxHeartbeats 4000000

def mk9 : Pt := (9, 0, ⟨#[109, 97, 114, 107]⟩)
theorem mark_any (w : World) :
    Calls Try.prog 26 #[] w fun e w' => e = .returned (pval mk9) ∧ Below w.heap.size w w' := by
  unfold pval mk9
  go_enter Try.func26, Try.ntmps26
  go_wp2_with fail
  exact bodyPost_ret (v := .agg #[.int .i64 9, .int .i64 0, .string ⟨#[109, 97, 114, 107]⟩]) (by simp [results, Try.results26, go_sem]) rfl ⟨rfl, (Below.refl _ _).alloc (Nat.le_refl _) _⟩
theorem filled_any (l : List Pt) (g n B : Nat) (w : World) (h : Room w B g n (l ++ [mk9, mk9, mk9])) (hn : l.length = n) (hn2 : n ≤ 4398046511104) :
    Calls Try.prog 28 #[.slice (some ⟨g, 0, none⟩) n (n + 3)] w fun e w' => e = .returned (.bool true) ∧ Below w.heap.size w w' := by
  obtain ⟨hBg, cs, hgb, hcs, hct⟩ := h
  have hlt := hgb.lt
  have hca : ∀ k, k < 3 → w.cell? ⟨g, n * 3 + k * 3, none⟩ = some (.int .i64 9) ∧ w.cell? ⟨g, n * 3 + k * 3 + 1, none⟩ = some (.int .i64 0) ∧ w.cell? ⟨g, n * 3 + k * 3 + 2, none⟩ = some (.string ⟨#[109, 97, 114, 107]⟩) := by
    intro k hk
    subst hn
    have e : ∀ i, w.cell? ⟨g, i, none⟩ = (pc (l ++ [mk9, mk9, mk9]))[i]? := by
      intro i
      rw [hgb.cell i, ← hct, Array.getElem?_toList]
    have hl : l.length + k < (l ++ [mk9, mk9, mk9]).length := by simp; omega
    have h1 := pc_at (l ++ [mk9, mk9, mk9]) (l.length + k) hl
    have h2 : (l ++ [mk9, mk9, mk9])[l.length + k]'hl = mk9 := by
      have h3 : (l ++ [mk9, mk9, mk9])[l.length + k]? = some mk9 := by
        rw [List.getElem?_append_right (by omega), Nat.add_sub_cancel_left]
        match k, hk with
        | 0, _ => rfl
        | 1, _ => rfl
        | 2, _ => rfl
      rw [List.getElem?_eq_getElem hl] at h3
      exact Option.some.inj h3
    rw [h2, Nat.add_mul] at h1
    rw [e, e, e]
    exact h1
  have Hca := Lib.hid hca
  have Hn := Lib.hid hn
  obtain ⟨N, hN⟩ : ∃ N, n + 3 = N := ⟨_, rfl⟩
  rw [hN]
  have hnN : (n : Int) ≤ (N : Int) := by omega
  have hN0 : (0 : Int) ≤ (N : Int) := by omega
  have hn0 : (0 : Int) ≤ (n : Int) := by omega
  have hN3 : N - n = 3 := by omega
  have HN := Lib.hid hN
  clear hN hca hn hgb hcs hct
  go_enter Try.func28, Try.ntmps28
  go_wp2_with fail
  go_loopw [4, 12] (fun yv iv wr => ∃ (k : Nat), k ≤ 3 ∧ iv = .int .i64 k ∧ Hid (Below w.heap.size w wr)) (fun _ iv _ => 3 - (intOf iv).toNat)
  case atStart => exact ⟨0, by omega, rfl, Lib.hid (Below.refl _ _)⟩
  case round =>
    obtain ⟨k, hk, rfl, hbw⟩ := hrel
    by_cases hlt2 : k < 3
    · have hkc : (k : Int) < 3 := by omega
      have hk0 : (0 : Int) ≤ (k : Int) := by omega
      obtain ⟨a0, a1, a2⟩ := Hca.out k hlt2
      rw [← hbw.out.cell hlt] at a0 a1 a2
      have hgl : g < wr.heap.size := Nat.lt_of_lt_of_le hlt hbw.out.size
      go_wp2_with fail
      have hy := Blk.new wr 45 #[.int .i64 9, .int .i64 0, .string ⟨#[109, 97, 114, 107]⟩]
      have hb4 : Below w.heap.size w (wr.alloc (.cells #[.int .i64 9, .int .i64 0, .string ⟨#[109, 97, 114, 107]⟩] 45)) := hbw.out.alloc hbw.out.size _
      clear a0 a1 a2
      obtain ⟨W4, hW4⟩ : ∃ W4, wr.alloc (.cells #[.int .i64 9, .int .i64 0, .string ⟨#[109, 97, 114, 107]⟩] 45) = W4 := ⟨_, rfl⟩
      obtain ⟨y, hy0⟩ : ∃ y, wr.heap.size = y := ⟨_, rfl⟩
      rw [hW4] at hy hb4 ⊢
      rw [hy0] at hy ⊢
      have HB4 := Lib.hid hb4
      have hyl := hy.lt
      have KeepS := Lib.hid (fun (w' : World) (h : Below W4.heap.size W4 w') => (⟨h, by rw [h.cell hyl]; exact hy.cell 0, by rw [h.cell hyl]; exact hy.cell 1, by rw [h.cell hyl]; exact hy.cell 2, Nat.lt_of_lt_of_le hyl h.size⟩ : Below W4.heap.size W4 w' ∧ w'.cell? ⟨y, 0, none⟩ = some (.int .i64 9) ∧ w'.cell? ⟨y, 1, none⟩ = some (.int .i64 0) ∧ w'.cell? ⟨y, 2, none⟩ = some (.string ⟨#[109, 97, 114, 107]⟩) ∧ y < w'.heap.size))
      have G := Lib.hid (fun (w' : World) (h : Below W4.heap.size W4 w' ∧ w'.cell? ⟨y, 0, none⟩ = some (.int .i64 9) ∧ w'.cell? ⟨y, 1, none⟩ = some (.int .i64 0) ∧ w'.cell? ⟨y, 2, none⟩ = some (.string ⟨#[109, 97, 114, 107]⟩) ∧ y < w'.heap.size) => (mark_any w').mono (R' := fun e w'' => e = .returned (.agg #[.int .i64 9, .int .i64 0, .string ⟨#[109, 97, 114, 107]⟩]) ∧ (Below W4.heap.size W4 w'' ∧ w''.cell? ⟨y, 0, none⟩ = some (.int .i64 9) ∧ w''.cell? ⟨y, 1, none⟩ = some (.int .i64 0) ∧ w''.cell? ⟨y, 2, none⟩ = some (.string ⟨#[109, 97, 114, 107]⟩) ∧ y < w''.heap.size)) (fun e w'' hh => ⟨hh.1, KeepS.out _ (h.1.trans (hh.2.mono h.1.size))⟩))
      have hS4 := KeepS.out W4 (Below.refl _ _)
      clear hy hy0 hW4 hyl hb4
      go_region_held3 (fun w' => Below W4.heap.size W4 w' ∧ w'.cell? ⟨y, 0, none⟩ = some (.int .i64 9) ∧ w'.cell? ⟨y, 1, none⟩ = some (.int .i64 0) ∧ w'.cell? ⟨y, 2, none⟩ = some (.string ⟨#[109, 97, 114, 107]⟩) ∧ y < w'.heap.size) (first | with_reducible assumption | exact KeepS.out _ (Below.drew (Below.refl _ _)) | exact KeepS.out _ (by assumption) | exact KeepS.out _ (Below.drew (by assumption)) | exact KeepS.out _ (Below.drew (Below.refl _ _)) | (go_split_ands; exact KeepS.out _ (by assumption)))
        ((go_at_call 26; with_reducible refine (G.out _ (by assumption)).mono ?_; rintro e w9 ⟨rfl, hS9⟩))
      go_wp2_with fail
      have hS9' : Below W4.heap.size W4 w9 ∧ w9.cell? ⟨y, 0, none⟩ = some (.int .i64 9) ∧ w9.cell? ⟨y, 1, none⟩ = some (.int .i64 0) ∧ w9.cell? ⟨y, 2, none⟩ = some (.string ⟨#[109, 97, 114, 107]⟩) ∧ y < w9.heap.size := by assumption
      go_roundw
      case rel => exact ⟨k + 1, by omega, by go_num, Lib.hid (HB4.out.trans (hS9'.1.mono HB4.out.size))⟩
      case measure => simp [intOf]; omega
    · obtain rfl : k = 3 := by omega
      go_wp2_with fail
      go_ret
      exact ⟨rfl, hbw.out⟩
end Go.Proofs.Ytfncpcmaplhojaa
namespace Go.Proofs.Ytfncpcmaplhojaa
open Go.ChangeShapes Go.WideShapes Go.RowKit
set_option linter.unusedVariables false
set_option linter.unusedSimpArgs false
set_option maxRecDepth 100000
set_option maxHeartbeats 4000000

/-- append of a slice of parts to a row of the call's own -/
theorem wpList_app_partsC {ops : Array Oper} {rest : List Oper} {o : Oper} {a : Act} {Q : Exit → Act → World → Prop} (w : World) (hgd : o.guard = none) (s x : Operand)
    (ho : o.op = .call { callee := .builtin .append, args := #[s, x], argTypes := #[27, 27] })
    (B : Nat) (v : Value) (l : List Pt) (hs : a.eval s = v) (hown : OwnP w B v l)
    (A : Option Addr) (m c B' : Nat) (l' : List Pt) (hx : a.eval x = .slice A m c) (hr : RdP w B' A m c l')
    (hn : l.length + m ≤ 4000000) (hB : B ≤ w.heap.size)
    (h : ∀ v' w', OwnP w' B v' (l ++ l') → Below B w w' → wpList Try.prog ops Q rest (a.put o.dst v') w') :
    wpList Try.prog ops Q (o :: rest) a w := by
  obtain ⟨i0, hi, hz0, hz1, hz2⟩ := info_parts Try.info_part
  refine wpList_append_any w hgd s x 27 ho B 45 i0 _ 3 32 Try.underlying27 hi hz0 hz1 hz2 rfl (by omega) v _ _ hs hown B' A m c (pc l') hx ?_ ?_ (by simp only [maxLen]; omega) (by omega) hB ?_
  · refine ⟨by rw [pc_len, hr.1], fun h0 => ?_⟩
    obtain ⟨b, o', e, hb, hc⟩ := hr.2.1.2.2.2 h0
    refine ⟨_, e, hb, fun j u hj => ?_⟩
    have := hc j u hj
    by_cases h00 : j = 0
    · subst h00; simpa [Addr.add] using this
    · simpa [Addr.add, h00] using this
  · intro u hu
    unfold pc at hu
    obtain ⟨p, _, hp⟩ := List.mem_flatMap.1 hu
    simp only [pcells, List.mem_cons, List.not_mem_nil, or_false] at hp
    rcases hp with rfl | rfl | rfl <;> rfl
  · intro v' w' h2 h3 h4
    exact h v' w' (by unfold OwnP; rw [pc_append, List.length_append, ← hr.1]; exact h2) (below_grown h3 hB (own_ge hown))
theorem eqlP_nil (w : World) (a : Option Addr) (l c : Nat) : (binOp .eql 27 (.slice a l c) (.slice none 0 0)).run Try.prog w = .ok (.bool a.isNone) w := by
  simp [binOp, run_equal_slice_nil w 27 45 a l c Try.underlying27]
theorem cloneP_nil (w : World) (n c : Nat) :
    Calls Try.prog 36 #[.slice none n c] w fun e w' => e = .returned (.slice none 0 0) ∧ w' = w := by
  go_enter Try.func36, Try.ntmps36
  have hq := eqlP_nil w none n c
  go_wp2_with fail
  go_ret
  exact ⟨rfl, rfl⟩
theorem cloneP_some (l : List Pt) (a : Addr) (n c : Nat) (w : World) (h : RdP w w.heap.size (some a) n c l) (hn : n ≤ 4000000) :
    Calls Try.prog 36 #[.slice (some a) n c] w fun e w' => ∃ v, e = .returned v ∧ OwnP w' w.heap.size v l ∧ Below w.heap.size w w' := by
  have H := Lib.hid h
  clear h
  go_enter Try.func36, Try.ntmps36
  have hq := eqlP_nil w (some a) n c
  have ho : OwnP (w.alloc (.cells #[] 45)) w.heap.size (.slice (some ⟨w.heap.size, 0, none⟩) 0 0) [] := World.ownsRow_made w #[] 0 (Nat.le_refl _) (by decide) rfl
  have Ho := Lib.hid ho
  have hr := H.out.alloc (Nat.le_refl _) (.cells #[] 45)
  have Hr := Lib.hid hr
  have hB : w.heap.size ≤ (w.alloc (.cells #[] 45)).heap.size := by simp
  have hn0 : ([] : List Pt).length + n ≤ 4000000 := by simpa using hn
  clear ho hr
  go_wp2_with (first | (at_builtin; go_loud (refine wpList_app_partsC _ rfl (.tmp 5) (.tmp 6) rfl w.heap.size _ [] rfl Ho.out (some a) n c _ l rfl Hr.out hn0 hB ?_; intro v4 w4 k1 k2)))
  go_ret
  rw [List.nil_append] at k1
  exact ⟨_, rfl, k1, ((Below.refl w.heap.size w).alloc (Nat.le_refl _) _).trans k2⟩
theorem cloneP_any (l : List Pt) (A : Option Addr) (n c : Nat) (w : World) (h : RdP w w.heap.size A n c l) (hn : n ≤ 4000000) :
    Calls Try.prog 36 #[.slice A n c] w fun e w' => ∃ v, e = .returned v ∧ OwnP w' w.heap.size v l ∧ Below w.heap.size w w' := by
  cases A with
  | none =>
    have e : l = [] := by
      rw [← List.length_eq_zero_iff, ← h.1]
      by_cases h0 : 0 < n
      · obtain ⟨b, o, e, _⟩ := h.2.1.2.2.2 h0
        cases e
      · omega
    subst e
    refine (cloneP_nil w n c).mono ?_
    rintro e w' ⟨rfl, rfl⟩
    exact ⟨_, rfl, OwnP.nil _ _, Below.refl _ _⟩
  | some a => exact cloneP_some l a n c w h hn
/-- a roomy list reads as what it holds -/
theorem Room.rd {w : World} {B g n c0 : Nat} {l m : List Pt} {A : Option Addr} {w0 : World} {B0 : Nat} (h : Room w B g n (l ++ m)) (h0 : RdP w0 B0 A n c0 l) (hn : n ≤ 4398046511104) : RdP w w.heap.size (some ⟨g, 0, none⟩) n (n + 3) l := by
  obtain ⟨_, cs, hb, hs, hc⟩ := h
  refine ⟨h0.1, ⟨by omega, by unfold maxLen; omega, h0.2.1.2.2.1, fun _ => ⟨g, 0, rfl, hb.lt, fun j u hj => ?_⟩⟩, h0.2.2⟩
  rw [Nat.zero_add, hb.cell j]
  have h1 : (pc (l ++ m))[j]? = some u := by
    rw [pc_append, List.getElem?_append_left (List.getElem?_eq_some_iff.1 hj).1]
    exact hj
  rw [← hc, Array.getElem?_toList] at h1
  exact h1
theorem Room.only {w w' : World} {B g n : Nat} {l : List Pt} {S : Nat → Prop} (h : Room w B g n l) (ho : Only w w' S) (hg : ¬ S g) : Room w' B g n l := by
  obtain ⟨hB, cs, hb, hs, hc⟩ := h
  exact ⟨hB, cs, hb.only ho hg, hs, hc⟩
theorem Room.step {w w' : World} {B g n : Nat} {l : List Pt} (h : Room w B g n l) (hb : Below w.heap.size w w') : Room w' B g n l := by
  obtain ⟨hB, cs, hk, hs, hc⟩ := h
  exact ⟨hB, cs, hk.below hb hk.lt, hs, hc⟩
theorem Room.lt {w : World} {B g n : Nat} {l : List Pt} (h : Room w B g n l) : g < w.heap.size := by
  obtain ⟨hB, cs, hk, hs, hc⟩ := h
  exact hk.lt
/-- spoil a list with room -/
theorem spoil_room (p : Pt) (g n B : Nat) (l : List Pt) (w : World) (h : Room w B g n l) (hn : n ≤ 4398046511104) :
    Calls Try.prog 29 #[.slice (some ⟨g, 0, none⟩) n (n + 3), pval p] w fun e w' => e = .returned (.tuple #[]) ∧ Only w w' (fun k => k = g) := by
  obtain ⟨hB, cs, hk, hs, hc⟩ := h
  exact spoil_any p g n (n + 3) cs w hk hs (by omega) (by unfold maxLen; omega)
end Go.Proofs.Ytfncpcmaplhojaa
namespace Go.Proofs.Ytfncpcmaplhojaa
open Go.ChangeShapes Go.WideShapes Go.RowKit
set_option linter.unusedVariables false
set_option linter.unusedSimpArgs false
set_option maxRecDepth 100000
set_option maxHeartbeats 4000000

theorem spoil_nil (p : Pt) (w : World) :
    Calls Try.prog 29 #[.slice none 0 0, pval p] w fun e w' => e = .returned (.tuple #[]) ∧ Below w.heap.size w w' := by
  obtain ⟨kd, m, t⟩ := p
  unfold pval
  go_enter Try.func29, Try.ntmps29
  go_wp2_with fail
  have hb := (Below.refl w.heap.size w).alloc (Nat.le_refl _) (.cells #[.int .i64 kd, .int .i64 m, .string t] 45)
  generalize w.alloc (.cells #[.int .i64 kd, .int .i64 m, .string t] 45) = W at *
  go_loopw [4, 11] (fun uv iv wr => iv = .int .i64 0 ∧ Hid (Below w.heap.size w wr)) (fun _ iv _ => 0)
  case atStart => exact ⟨rfl, Lib.hid hb⟩
  case round =>
    obtain ⟨rfl, hbw⟩ := hrel
    go_wp2_with fail
    go_end0
    exact ⟨rfl, hbw.out⟩
theorem spoil_own (p : Pt) (v : Value) (l : List Pt) (B : Nat) (w : World) (h : OwnP w B v l) :
    Calls Try.prog 29 #[v, pval p] w fun e w' => e = .returned (.tuple #[]) ∧ Only w w' (fun k => v.ownBlock = some k) := by
  rcases h.2 with ⟨rfl, h0⟩ | ⟨g, cap, cur, rfl, hb, hg, hnc, hcm, hcs, htake⟩
  · clear h0
    refine (spoil_nil p w).mono ?_
    rintro e w' ⟨rfl, hb⟩
    exact ⟨rfl, Only.of_below hb⟩
  · refine (spoil_any p g l.length cap cur w hg hcs hnc hcm).mono ?_
    rintro e w' ⟨rfl, ho⟩
    exact ⟨rfl, ho.mono fun k _ hk => by subst hk; rfl⟩
/-- a list of parts as it came in, nil where it has no place -/
def IsPartsN (w : World) (v : Value) (l : List Pt) : Prop := ∃ A n c, v = .slice A n c ∧ RdP w w.heap.size A n c l ∧ n ≤ 4398046511104 ∧ (A = none → c = 0)
end Go.Proofs.Ytfncpcmaplhojaa
namespace Go.Proofs.Ytfncpcmaplhojaa
open Go.ChangeShapes Go.WideShapes Go.RowKit
set_option linter.unusedVariables false
set_option linter.unusedSimpArgs false
set_option maxRecDepth 100000
set_option maxHeartbeats 4000000

def ic (l : List Int) : List Value := l.map (Value.int .i64)
theorem ic_at (l : List Int) (k : Nat) (h : k < l.length) : (ic l)[k]? = some (.int .i64 l[k]) := by simp [ic, h]
theorem ic_len (l : List Int) : (ic l).length = l.length := by simp [ic]
/-- the slice reads as the list -/
def RdI (w : World) (B : Nat) (A : Option Addr) (n c : Nat) (l : List Int) : Prop := n = l.length ∧ Rd w B 1 A n c (ic l)
theorem RdI.at_ {w : World} {B n c : Nat} {A : Option Addr} {l : List Int} (h : RdI w B A n c l) (k : Nat) (hk : k < n) :
    ∃ b o, A = some ⟨b, o, none⟩ ∧ b < B ∧ w.cell? ⟨b, o + k, none⟩ = some (.int .i64 (l[k]'(by have := h.1; omega))) := by
  obtain ⟨b, o, e, hb, hc⟩ := h.2.2.2.2 (by omega)
  exact ⟨b, o, e, hb, hc k _ (ic_at l k (by have := h.1; omega))⟩
theorem RdI.below {w w' : World} {B n c : Nat} {A : Option Addr} {l : List Int} (h : RdI w B A n c l) (hb : Below B w w') : RdI w' B A n c l := ⟨h.1, h.2.below hb⟩
theorem RdI.more {w : World} {B B' n c : Nat} {A : Option Addr} {l : List Int} (h : RdI w B A n c l) (hB : B ≤ B') : RdI w B' A n c l := ⟨h.1, h.2.more hB⟩
theorem RdI.alloc {w : World} {B n c : Nat} {A : Option Addr} {l : List Int} (h : RdI w B A n c l) (hB : B ≤ w.heap.size) (o : Obj) : RdI (w.alloc o) B A n c l := ⟨h.1, h.2.alloc hB o⟩
theorem RdI.drewN {w : World} {B n c : Nat} {A : Option Addr} {l : List Int} (h : RdI w B A n c l) (k : Nat) : RdI (w.drewN k) B A n c l := ⟨h.1, h.2.drewN k⟩
theorem RdI.le {w : World} {B n c : Nat} {A : Option Addr} {l : List Int} (h : RdI w B A n c l) : n ≤ 9223372036854775807 := by have := h.2.1; have := h.2.2.1; unfold maxLen at this; omega

/-- a []int of the call's own -/
def OwnI (w : World) (B : Nat) (v : Value) (l : List Int) : Prop := w.ownsRow B 3 1 v l.length (ic l)
theorem Try.info_int : (Try.prog.info? 3).map (fun i => (i.zero, i.size, i.bytes)) = some (some (.int .i64 0), 1, 8) := by kernel_rfl
theorem OwnI.nil (w : World) (B : Nat) : OwnI w B (.slice none 0 0) [] := World.ownsRow_nil _ _ _ _
theorem OwnI.rd {w : World} {B : Nat} {v : Value} {l : List Int} (h : OwnI w B v l) : ∃ A c, v = .slice A l.length c ∧ RdI w w.heap.size A l.length c l := by
  obtain ⟨A, c, e, hr⟩ := Rd.own h
  exact ⟨A, c, e, rfl, hr⟩
theorem OwnI.below {w w' : World} {B : Nat} {v : Value} {l : List Int} (h : OwnI w B v l) (hb : Below w.heap.size w w') : OwnI w' B v l := own_below h hb
theorem own_base {w : World} {base base' : Nat} {e : TypeId} {size n : Nat} {v : Value} {xs : List Value} (h : w.ownsRow base e size v n xs) (hb : base' ≤ base) : w.ownsRow base' e size v n xs := by
  obtain ⟨h1, h2⟩ := h
  refine ⟨h1, ?_⟩
  rcases h2 with h2 | ⟨g, cap, cur, e1, hg, r⟩
  · exact .inl h2
  · exact .inr ⟨g, cap, cur, e1, by omega, r⟩
theorem RdI.built (w : World) (cs : Array Value) (l : List Int) (n : Nat) (hn : n = l.length) (hc : cs.toList = ic l) (hm : n ≤ maxLen) :
    RdI (w.alloc (.cells cs 3)) (w.heap.size + 1) (some ⟨w.heap.size, 0, none⟩) n n l := by
  refine ⟨hn, ?_⟩
  rw [← hc]
  exact Rd.built w _ cs (by have := congrArg List.length hc; simp only [Array.length_toList, ic_len] at this; omega) hm
theorem wpList_app_int {ops : Array Oper} {rest : List Oper} {o : Oper} {a : Act} {Q : Exit → Act → World → Prop} (w : World) (hgd : o.guard = none) (s x : Operand)
    (ho : o.op = .call { callee := .builtin .append, args := #[s, x], argTypes := #[150, 150] })
    (B : Nat) (v : Value) (l : List Int) (hs : a.eval s = v) (hown : OwnI w B v l)
    (u : Int) (c : Nat) (hx : a.eval x = .slice (some ⟨w.heap.size, 0, none⟩) 1 c)
    (hn : l.length ≤ 100000000) (hB : B ≤ w.heap.size)
    (h : ∀ v' w', OwnI w' B v' (l ++ [u]) → Below B w w' → w.grownBy w' v.ownBlock → (v'.ownBlock = v.ownBlock ∨ v'.ownBlock = some (w.heap.size + 1)) → wpList Try.prog ops Q rest (a.put o.dst v') w') :
    wpList Try.prog ops Q (o :: rest) a (w.alloc (.cells #[.int .i64 u] 3)) := by
  obtain ⟨i0, hi, hz0, hz1, hz2⟩ := info_parts Try.info_int
  refine wpList_app1 w hgd s x 150 ho B 3 i0 _ 1 8 Try.underlying150 hi hz0 hz1 hz2 rfl (by omega) (by omega) v _ _ hs hown _ c hx rfl (by simp [Value.oneCell']) hn hB ?_
  intro v' w' h1 h2 h3 h4
  exact h v' w' (by simpa [OwnI, ic] using h1) h2 h3 h4

end Go.Proofs.Ytfncpcmaplhojaa
