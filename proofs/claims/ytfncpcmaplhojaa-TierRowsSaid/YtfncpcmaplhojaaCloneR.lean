/- slices.Clone of a history, and a revision behind it. -/
import Derived.Test.YtfncpcmaplhojaaFirst
namespace Go.Proofs.Ytfncpcmaplhojaa
open Go.ChangeShapes Go.WideShapes Go.RowKit
set_option linter.unusedVariables false
set_option linter.unusedSimpArgs false
set_option maxRecDepth 100000
set_option maxHeartbeats 4000000

theorem Try.info_rev : (Try.prog.info? 29).map (fun i => (i.zero, i.size, i.bytes)) = some (some (.agg #[.int .i64 0, .int .i64 0, .slice none 0 0]), 3, 40) := by kernel_rfl
theorem rc_append : ∀ (l l' : List Rv) (ss ss' : List Sl), ss.length = l.length → rc (l ++ l') (ss ++ ss') = rc l ss ++ rc l' ss'
  | [], l', [], ss', _ => rfl
  | [], l', _ :: _, ss', h => by simp at h
  | _ :: _, l', [], ss', h => by simp at h
  | r :: l, l', s :: ss, ss', h => by
    simp only [List.cons_append, rc]
    rw [rc_append l l' ss ss' (by simpa using h), List.append_assoc]
theorem rc_cell : ∀ (l : List Rv) (ss : List Sl), ∀ u ∈ rc l ss, u.oneCell' = true
  | [], _, u, h => by simp [rc] at h
  | _ :: _, [], u, h => by simp [rc] at h
  | r :: l, s :: ss, u, h => by
    simp only [rc, List.mem_append, rvcells, List.mem_cons, List.not_mem_nil, or_false] at h
    rcases h with (rfl | rfl | rfl) | h
    · rfl
    · rfl
    · rfl
    · exact rc_cell l ss u h
theorem RdP.grown {w w' : World} {B b o n c : Nat} {row : Option Nat} {l : List Pt} (h : RdP w B (some ⟨b, o, none⟩) n c l) (hB : B ≤ w.heap.size) (hg : w.grownBy w' row) (hne : some b ≠ row) : RdP w' B (some ⟨b, o, none⟩) n c l := by
  refine ⟨h.1, ⟨h.2.1.1, h.2.1.2.1, h.2.1.2.2.1, fun hn => ?_⟩, h.2.2⟩
  obtain ⟨b', o', e, hb, hc⟩ := h.2.1.2.2.2 hn
  refine ⟨b', o', e, hb, fun j u hj => ?_⟩
  have e1 : b = b' := by injection e with e; injection e
  have := hc j u hj
  simp only [World.cell?] at this ⊢
  rw [hg.block b' (by omega) (by rw [← e1]; exact hne)]
  exact this
/-- a history of the call's own, its deltas elsewhere -/
def OwnR (w : World) (B : Nat) (v : Value) (l : List Rv) : Prop := ∃ ss : List Sl, ∃ hs : ss.length = l.length, w.ownsRow B 29 3 v l.length (rc l ss) ∧ ∀ k (h : k < l.length), RdP w B (ss[k]'(by omega)).1 (ss[k]'(by omega)).2.1 (ss[k]'(by omega)).2.2 l[k].2.2
theorem OwnR.below {w w' : World} {B : Nat} {v : Value} {l : List Rv} (h : OwnR w B v l) (hB : B ≤ w.heap.size) (hb : Below w.heap.size w w') : OwnR w' B v l := by
  obtain ⟨ss, hs, h1, h2⟩ := h
  exact ⟨ss, hs, own_below h1 hb, fun k hk => (h2 k hk).below (hb.mono hB)⟩
theorem wpList_app_rev {ops : Array Oper} {rest : List Oper} {o : Oper} {a : Act} {Q : Exit → Act → World → Prop} (w : World) (hgd : o.guard = none) (s x : Operand)
    (ho : o.op = .call { callee := .builtin .append, args := #[s, x], argTypes := #[22, 22] })
    (B : Nat) (v : Value) (l : List Rv) (hsv : a.eval s = v) (hown : OwnR w B v l)
    (p q : Int) (A : Option Addr) (n c c1 : Nat) (d : List Pt) (hx : a.eval x = .slice (some ⟨w.heap.size, 0, none⟩) 1 c1) (hd : RdP w w.heap.size A n c d)
    (hA : ∀ b o s, A = some ⟨b, o, s⟩ → v.ownBlock ≠ some b) (hA2 : ∀ b o s, A = some ⟨b, o, s⟩ → s = none)
    (hn : l.length ≤ 100000000) (hB : B ≤ w.heap.size)
    (h : ∀ A' c' w', RdR w' w'.heap.size A' (l.length + 1) c' (l ++ [(p, q, d)]) → Below B w w' → wpList Try.prog ops Q rest (a.put o.dst (.slice A' (l.length + 1) c')) w') :
    wpList Try.prog ops Q (o :: rest) a (w.alloc (.cells #[.int .i64 p, .int .i64 q, .slice A n c] 29)) := by
  obtain ⟨i0, hi, hz0, hz1, hz2⟩ := info_parts Try.info_rev
  obtain ⟨ss, hss, h1, h2⟩ := hown
  refine wpList_app1 w hgd s x 22 ho B 29 i0 _ 3 40 Try.underlying22 hi hz0 hz1 hz2 rfl (by omega) (by omega) v _ _ hsv h1 _ c1 hx rfl (by simp [Value.oneCell']) hn hB ?_
  intro v' w' g1 g2 g3 g4
  obtain ⟨A', c', e, hr⟩ := Rd.own g1
  subst e
  have hws : w.heap.size ≤ w'.heap.size := g3.size
  refine h A' c' w' ⟨by simp, ss ++ [(A, n, c)], by simp [hss], ?_, fun k hk => ?_⟩ g2
  · rw [rc_append l [(p, q, d)] ss [(A, n, c)] hss]; exact hr
  · rw [List.length_append, List.length_singleton] at hk
    by_cases hkl : k < l.length
    · have := ((h2 k hkl).below g2).more (show B ≤ w'.heap.size by omega)
      rw [List.getElem_append_left hkl]
      rw [List.getElem_append_left (by omega)]
      exact this
    · obtain rfl : k = l.length := by omega
      have hd' : RdP w' w'.heap.size A n c d := by
        match A, hd, hA, hA2 with
        | none, hd, _, _ =>
          refine ⟨hd.1, ⟨hd.2.1.1, hd.2.1.2.1, hd.2.1.2.2.1, fun hn => ?_⟩, hd.2.2⟩
          obtain ⟨b', o', e, hb, hc⟩ := hd.2.1.2.2.2 hn
          cases e
        | some ⟨b, o, s⟩, hd, hA, hA2 =>
          obtain rfl := hA2 b o s rfl
          exact (hd.grown (Nat.le_refl _) g3 (Ne.symm (hA b o none rfl))).more hws
      have e1 : (l ++ [(p, q, d)])[l.length]'(by simp) = (p, q, d) := by simp
      have e2 : (ss ++ [(A, n, c)])[l.length]'(by simp [hss]) = (A, n, c) := by simp [← hss]
      rw [e1, e2]
      exact hd'
theorem eqr_nil (w : World) (a : Option Addr) (l c : Nat) : (binOp .eql 22 (.slice a l c) (.slice none 0 0)).run Try.prog w = .ok (.bool a.isNone) w := by
  simp [binOp, run_equal_slice_nil w 22 29 a l c Try.underlying22]
theorem allge_any (n : Int) (w : World) :
    Calls Try.prog 57 #[.int .i64 n] w fun e w' => ∃ A c, e = .returned (.slice A (allL n).length c) ∧ RdP w' w'.heap.size A (allL n).length c (allL n) ∧ Below w.heap.size w w' ∧ ∀ b o s, A = some ⟨b, o, s⟩ → w.heap.size ≤ b ∧ s = none := by
  by_cases h : n = 0
  · subst h
    go_enter Try.func57, Try.ntmps57
    go_wp2_with fail
    go_ret
    exact ⟨none, 0, rfl, ⟨rfl, Rd.nil _ _ _, by simp [allL]⟩, Below.refl _ _, fun b o s e => by cases e⟩
  · have hn : (n == 0) = false := by simpa using h
    have hr := RdP.built w #[.int .i64 1, .int .i64 n, .string ⟨#[]⟩] [(1, n, emp)] 1 rfl rfl (by decide) (by simp [emp]; decide)
    have Hr := Lib.hid hr
    have ha : Hid (allL n = [(1, n, emp)]) := Lib.hid (by unfold allL; rw [if_neg h])
    rw [ha.out]
    clear hr h ha
    go_enter Try.func57, Try.ntmps57
    go_wp2_with fail
    go_ret
    exact ⟨_, _, rfl, by simpa using Hr.out, (Below.refl _ _).alloc (Nat.le_refl _) _, fun b o s e => by injection e with e; injection e with e1 e2 e3; exact ⟨by omega, e3.symm⟩⟩
theorem allge (n : Int) (w : World) :
    Calls Try.prog 17 #[.int .i64 n] w fun e w' => ∃ A c, e = .returned (.slice A (allL n).length c) ∧ RdP w' w'.heap.size A (allL n).length c (allL n) ∧ Below w.heap.size w w' ∧ ∀ b o s, A = some ⟨b, o, s⟩ → w.heap.size ≤ b ∧ s = none := by
  obtain ⟨L, hL⟩ : ∃ L, allL n = L := ⟨_, rfl⟩
  have hcall := allge_any n w
  rw [hL] at hcall ⊢
  have Hc := Lib.hid hcall
  clear hcall hL
  go_enter Try.func17, Try.ntmps17
  go_wp2_with fail
  refine Hc.out.mono ?_
  rintro e w1 ⟨A, c, rfl, hr, hb, hg⟩
  have Hr := Lib.hid hr
  have Hg := Lib.hid hg
  clear hr hg
  go_wp2_with fail
  go_ret
  exact ⟨_, _, rfl, Hr.out, hb, Hg.out⟩
end Go.Proofs.Ytfncpcmaplhojaa
