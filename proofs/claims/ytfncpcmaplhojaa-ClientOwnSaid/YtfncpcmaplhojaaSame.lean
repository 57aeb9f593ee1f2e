/- Contracts of slices.Equal over parts, scrivref.Same, scrivref.In, scrivref.All, scrivkeep.All, scrivkeep.put. -/
import Derived.Test.YtfncpcmaplhojaaPart
import Derived.Test.YtfncpcmaplhojaaDeltaLaw
namespace Go.Proofs.Ytfncpcmaplhojaa
open Go.ChangeShapes Go.WideShapes Go.RowKit
set_option linter.unusedVariables false
set_option linter.unusedSimpArgs false
set_option maxRecDepth 100000
set_option maxHeartbeats 4000000

/-- a slice that a buildSlice has just made of parts -/
theorem RdP.built (w : World) (cs : Array Value) (l : List Pt) (n : Nat) (hn : n = l.length) (hc : cs.toList = pc l) (hm : n ≤ maxLen) (ht : ∀ p ∈ l, p.2.2.size ≤ 140737488351232) :
    RdP (w.alloc (.cells cs 45)) (w.heap.size + 1) (some ⟨w.heap.size, 0, none⟩) n n l := by
  refine ⟨hn, ?_, ht⟩
  rw [← hc]
  exact Rd.built w _ cs (by have := congrArg List.length hc; simp only [Array.length_toList, pc_len] at this; omega) hm
theorem RdP.builtS (w : World) (cs : Array Value) (l : List Pt) (n : Nat) (hn : n = l.length) (hc : cs.toList = pc l) (hm : n ≤ maxLen) (ht : ∀ p ∈ l, p.2.2.size ≤ 140737488351232) :
    RdP (w.alloc (.cells cs 45)) (w.alloc (.cells cs 45)).heap.size (some ⟨w.heap.size, 0, none⟩) n n l := by
  rw [World.size_alloc]; exact RdP.built w cs l n hn hc hm ht
theorem put_any (s : ByteArray) (hs : s.size ≤ 140737488351232) (w : World) :
    Calls Try.prog 19 #[.string s] w fun e w' => ∃ A, e = .returned (.slice A 1 1) ∧ RdP w' w'.heap.size A 1 1 [(2, 0, s)] ∧ Below w.heap.size w w' := by
  have hr := RdP.built w #[.int .i64 2, .int .i64 0, .string s] [(2, 0, s)] 1 rfl rfl (by decide) (by simpa using hs)
  have Hr := Lib.hid hr
  clear hr
  go_enter Try.func19, Try.ntmps19
  go_wp2_with fail
  go_ret
  exact ⟨_, rfl, by simpa using Hr.out, (Below.refl _ _).alloc (Nat.le_refl _) _⟩
theorem same_long (l l' : List Pt) (A A' : Option Addr) (n n' c c' B B' : Nat) (w : World) (h : RdP w B A n c l) (h' : RdP w B' A' n' c' l') (e : n ≠ n') :
    Calls Try.prog 58 #[.slice A n c, .slice A' n' c'] w fun e w' => e = .returned (.bool (decide (l = l'))) ∧ Below w.heap.size w w' := by
  have hne : decide (l = l') = false := by
    rw [decide_eq_false_iff_not]
    rintro rfl
    exact e (h.1.trans h'.1.symm)
  have hb : ((n : Int) == (n' : Int)) = false := by simp; omega
  have h1 := h.le
  have h2 := h'.le
  rw [hne]
  clear h h' hne
  go_enter Try.func58, Try.ntmps58
  go_wp2_with fail
  go_ret
  exact ⟨rfl, Below.refl _ _⟩
theorem same_same (l l' : List Pt) (A A' : Option Addr) (n c c' B B' : Nat) (w : World) (h : RdP w B A n c l) (h' : RdP w B' A' n c' l') :
    Calls Try.prog 58 #[.slice A n c, .slice A' n c'] w fun e w' => e = .returned (.bool (decide (l = l'))) ∧ Below w.heap.size w w' := by
  have hle := h.le
  have H := Lib.hid h
  have H' := Lib.hid h'
  obtain ⟨R, hR⟩ : ∃ R, decide (l = l') = R := ⟨_, rfl⟩
  rw [hR]
  have HR := Lib.hid hR
  clear h h' hR
  go_enter Try.func58, Try.ntmps58
  go_wp2_with fail
  go_loopw [5, 13] (fun i0 i wr => ∃ (k q : Nat), k ≤ n ∧ i = .int .i64 k ∧ wr = w.drewN q ∧ Hid (l.take k = l'.take k)) (fun _ i _ => n - (intOf i).toNat)
  case atStart => exact ⟨0, 0, by omega, rfl, rfl, Lib.hid rfl⟩
  case round =>
    obtain ⟨k, q, hk, rfl, rfl, htk⟩ := hrel
    by_cases hlt : k < n
    · obtain ⟨b, o, rfl, hb, c0, c1, c2⟩ := H.out.at_ k hlt
      obtain ⟨b', o', rfl, hb', c0', c1', c2'⟩ := H'.out.at_ k hlt
      have hkl : k < l.length := by have := H.out.1; omega
      have hkl' : k < l'.length := by have := H'.out.1; omega
      have hs : Hid (l.take (k + 1) = l.take k ++ [l[k]]) := Lib.hid (by rw [List.take_succ_eq_append_getElem hkl])
      have hs' : Hid (l'.take (k + 1) = l'.take k ++ [l'[k]]) := Lib.hid (by rw [List.take_succ_eq_append_getElem hkl'])
      have hd : Hid (l[k] ≠ l'[k] → R = false) := Lib.hid fun h => by
        rw [← HR.out, decide_eq_false_iff_not]
        rintro rfl
        exact h rfl
      generalize l[k] = p at *
      generalize l'[k] = p' at *
      obtain ⟨kd, m, t⟩ := p
      obtain ⟨kd', m', t'⟩ := p'
      simp only at c0 c1 c2 c0' c1' c2'
      have hk0 : (0 : Int) ≤ (k : Int) := by omega
      have hkn : (k : Int) < (n : Int) := by omega
      by_cases e0 : kd = kd'
      · subst e0
        by_cases e1 : m = m'
        · subst e1
          by_cases e2 : t = t'
          · subst e2
            clear hd
            go_wp2_with fail
            go_region
            all_goals
              go_wp2_with fail
              go_roundw
              case rel => exact ⟨k + 1, q + 1, by omega, by go_num, rfl, Lib.hid (by rw [hs.out, hs'.out, htk.out])⟩
              case measure => simp [intOf]; omega
          · have hl : ¬ t.toList = t'.toList := fun h => e2 (bs_ext (by rw [← ByteArray.toList_eq, ← ByteArray.toList_eq]; exact h))
            have hR : R = false := hd.out (by simp; exact e2)
            subst hR
            clear e2 hd
            go_wp2_with fail
            go_region
            all_goals
              go_wp2_with fail
              go_ret
              exact ⟨rfl, below_drewN_ (Below.refl _ _) (q + 1)⟩
        · have hR : R = false := hd.out (by simp; intro h; exact absurd h e1)
          subst hR
          clear hd
          go_wp2_with fail
          go_region
          all_goals
            go_wp2_with fail
            go_ret
            exact ⟨rfl, below_drewN_ (Below.refl _ _) (q + 1)⟩
      · have hR : R = false := hd.out (by simp; intro h; exact absurd h e0)
        subst hR
        clear hd
        go_wp2_with fail
        go_region
        all_goals
          go_wp2_with fail
          go_ret
          exact ⟨rfl, below_drewN_ (Below.refl _ _) (q + 1)⟩
    · have hR : R = true := by
        rw [← HR.out, decide_eq_true_iff]
        have h1 := htk.out
        have h2 := H.out.1
        have h3 := H'.out.1
        rwa [List.take_of_length_le (by omega), List.take_of_length_le (by omega)] at h1
      subst hR
      go_wp2_with fail
      go_ret
      exact ⟨rfl, below_drewN_ (Below.refl _ _) q⟩
theorem same_any (l l' : List Pt) (A A' : Option Addr) (n n' c c' B B' : Nat) (w : World) (h : RdP w B A n c l) (h' : RdP w B' A' n' c' l') :
    Calls Try.prog 18 #[.slice A n c, .slice A' n' c'] w fun e w' => e = .returned (.bool (decide (l = l'))) ∧ Below w.heap.size w w' := by
  have hcall : Calls Try.prog 58 #[.slice A n c, .slice A' n' c'] w fun e w' => e = .returned (.bool (decide (l = l'))) ∧ Below w.heap.size w w' := by
    by_cases e : n = n'
    · subst e; exact same_same l l' A A' n c c' B B' w h h'
    · exact same_long l l' A A' n n' c c' B B' w h h' e
  generalize decide (l = l') = R at *
  have Hc := Lib.hid hcall
  clear h h' hcall
  go_enter Try.func18, Try.ntmps18
  go_wp2_with fail
  refine Hc.out.mono ?_
  rintro e w1 ⟨rfl, hb⟩
  go_wp2_with fail
  go_ret
  exact ⟨rfl, hb⟩
theorem same_true (l l' : List Pt) (A A' : Option Addr) (n n' c c' B B' : Nat) (w : World) (h : RdP w B A n c l) (h' : RdP w B' A' n' c' l') (e : l = l') :
    Calls Try.prog 18 #[.slice A n c, .slice A' n' c'] w fun e w' => e = .returned (.bool true) ∧ Below w.heap.size w w' := by
  have := same_any l l' A A' n n' c c' B B' w h h'
  rwa [decide_eq_true e] at this
theorem refall_any (n : Int) (w : World) :
    Calls Try.prog 57 #[.int .i64 n] w fun e w' => ∃ A c, e = .returned (.slice A (allL n).length c) ∧ RdP w' w'.heap.size A (allL n).length c (allL n) ∧ Below w.heap.size w w' := by
  by_cases h : n = 0
  · subst h
    go_enter Try.func57, Try.ntmps57
    go_wp2_with fail
    go_ret
    exact ⟨none, 0, rfl, ⟨rfl, Rd.nil _ _ _, by simp [allL]⟩, Below.refl _ _⟩
  · have hn : (n == 0) = false := by simpa using h
    have hr := RdP.built w #[.int .i64 1, .int .i64 n, .string ⟨#[]⟩] [(1, n, emp)] 1 rfl rfl (by decide) (by simp [emp]; decide)
    have Hr := Lib.hid hr
    have ha : Hid (allL n = [(1, n, emp)]) := Lib.hid (by unfold allL; rw [if_neg h])
    rw [ha.out]
    clear hr h ha
    go_enter Try.func57, Try.ntmps57
    go_wp2_with fail
    go_ret
    exact ⟨_, _, rfl, by simpa using Hr.out, (Below.refl _ _).alloc (Nat.le_refl _) _⟩
theorem all_any (n : Int) (w : World) :
    Calls Try.prog 17 #[.int .i64 n] w fun e w' => ∃ A c, e = .returned (.slice A (allL n).length c) ∧ RdP w' w'.heap.size A (allL n).length c (allL n) ∧ Below w.heap.size w w' := by
  obtain ⟨L, hL⟩ : ∃ L, allL n = L := ⟨_, rfl⟩
  have hcall := refall_any n w
  rw [hL] at hcall ⊢
  have Hc := Lib.hid hcall
  clear hcall hL
  go_enter Try.func17, Try.ntmps17
  go_wp2_with fail
  refine Hc.out.mono ?_
  rintro e w1 ⟨A, c, rfl, hr, hb⟩
  have Hr := Lib.hid hr
  clear hr
  go_wp2_with fail
  go_ret
  exact ⟨_, _, rfl, Hr.out, hb⟩
end Go.Proofs.Ytfncpcmaplhojaa
