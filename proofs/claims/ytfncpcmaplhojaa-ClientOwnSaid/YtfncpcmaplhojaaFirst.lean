/- The laws' helper first: a revision that puts a text; histories just boxed. -/
import Derived.Test.YtfncpcmaplhojaaRevs
import Derived.Test.YtfncpcmaplhojaaSame
namespace Go.Proofs.Ytfncpcmaplhojaa
open Go.ChangeShapes Go.WideShapes Go.RowKit
set_option linter.unusedVariables false
set_option linter.unusedSimpArgs false
set_option maxRecDepth 100000
set_option maxHeartbeats 4000000

theorem cell_far {w : World} {g i : Nat} {v : Value} {p : Addr} (h : g ≠ p.block) : (w.setCell ⟨g, i, none⟩ v).cell? p = w.cell? p := by
  simp only [World.cell?]
  rw [Below.heap_setCell w ⟨g, i, none⟩ v p.block (by simpa using fun h2 => h h2.symm)]
theorem RdP.far {w : World} {B b o n c g i : Nat} {l : List Pt} {v : Value} (h : RdP w B (some ⟨b, o, none⟩) n c l) (hne : g ≠ b) : RdP (w.setCell ⟨g, i, none⟩ v) B (some ⟨b, o, none⟩) n c l := by
  refine ⟨h.1, ⟨h.2.1.1, h.2.1.2.1, h.2.1.2.2.1, fun hn => ?_⟩, h.2.2⟩
  obtain ⟨b', o', e, hb, hc⟩ := h.2.1.2.2.2 hn
  refine ⟨b', o', e, hb, fun j u hj => ?_⟩
  rw [cell_far (by injection e with e; injection e with e1 e2; show g ≠ b'; rw [← e1]; exact hne)]
  exact hc j u hj
theorem RdR.built (w : World) (cs : Array Value) (l : List Rv) (ss : List Sl) (n : Nat) (hn : n = l.length) (hs : ss.length = l.length) (hc : cs.toList = rc l ss) (hm : n ≤ maxLen)
    (hp : ∀ k (h : k < l.length), RdP w w.heap.size (ss[k]'(by omega)).1 (ss[k]'(by omega)).2.1 (ss[k]'(by omega)).2.2 l[k].2.2) :
    RdR (w.alloc (.cells cs 29)) (w.alloc (.cells cs 29)).heap.size (some ⟨w.heap.size, 0, none⟩) n n l := by
  refine ⟨hn, ss, hs, ?_, fun k hk => (hp k hk).stepA _⟩
  rw [← hc, World.size_alloc]
  exact Rd.built w _ cs (by have := congrArg List.length hc; simp only [Array.length_toList] at this; rw [rc_len l ss hs] at this; omega) hm
theorem RdR.built1 (w : World) (a b : Int) (A : Option Addr) (n c : Nat) (d : List Pt) (h : RdP w w.heap.size A n c d) :
    RdR (w.alloc (.cells #[.int .i64 a, .int .i64 b, .slice A n c] 29)) (w.alloc (.cells #[.int .i64 a, .int .i64 b, .slice A n c] 29)).heap.size (some ⟨w.heap.size, 0, none⟩) 1 1 [(a, b, d)] :=
  RdR.built w _ [(a, b, d)] [(A, n, c)] 1 rfl rfl rfl (by decide) fun k hk => by
    obtain rfl : k = 0 := by simp at hk; omega
    exact h
theorem RdR.built2 (w : World) (a b a' b' : Int) (A A' : Option Addr) (n c n' c' : Nat) (d d' : List Pt) (h : RdP w w.heap.size A n c d) (h' : RdP w w.heap.size A' n' c' d') :
    RdR (w.alloc (.cells #[.int .i64 a, .int .i64 b, .slice A n c, .int .i64 a', .int .i64 b', .slice A' n' c'] 29)) (w.alloc (.cells #[.int .i64 a, .int .i64 b, .slice A n c, .int .i64 a', .int .i64 b', .slice A' n' c'] 29)).heap.size (some ⟨w.heap.size, 0, none⟩) 2 2 [(a, b, d), (a', b', d')] :=
  RdR.built w _ [(a, b, d), (a', b', d')] [(A, n, c), (A', n', c')] 2 rfl rfl rfl (by decide) fun k hk => by
    rcases (show k = 0 ∨ k = 1 by simp at hk; omega) with rfl | rfl
    · exact h
    · exact h'
theorem first_any (s : ByteArray) (hs : s.size ≤ 140737488351232) (w : World) :
    Calls Try.prog 16 #[.string s] w fun e w' => ∃ A, e = .returned (.agg #[.int .i64 1, .int .i64 1, .slice A 1 1]) ∧ RdP w' w'.heap.size A 1 1 [(2, 0, s)] ∧ Below w.heap.size w w' := by
  have kb := Blk.new w 29 #[.int .i64 0, .int .i64 0, .slice none 0 0]
  have hb0 := (Below.refl w.heap.size w).alloc (Nat.le_refl _) (.cells #[.int .i64 0, .int .i64 0, .slice none 0 0] 29)
  go_enter Try.func16, Try.ntmps16
  go_wp2_with fail
  refine (put_any s hs _).mono ?_
  rintro e w1 ⟨A, rfl, hr, hb⟩
  have k1 := kb.below hb kb.lt
  have hw1 := hb0.trans (hb.mono hb0.size)
  have c0 := k1.cell 0
  have c1 := k1.cell 1
  have c2 := k1.cell 2
  have f0 := k1.frozen 0
  have f1 := k1.frozen 1
  have f2 := k1.frozen 2
  have l1 := k1.lt
  obtain ⟨b, o, rfl, hbb, hc0, hc1_⟩ := hr.at_ 0 (by omega)
  clear hc1_
  have hne : w.heap.size ≠ b := by
    rintro rfl
    have := k1.cell o
    rw [Nat.zero_mul, Nat.add_zero] at hc0
    rw [hc0] at this
    match o with
    | 0 => simp at this
    | 1 => simp at this
    | 2 => simp at this
    | o + 3 => simp at this
  have Hr := Lib.hid hr
  have Hne := Lib.hid hne
  have Hw := Lib.hid hw1
  clear hr hb hw1 hb0 kb hc0 hne
  go_wp2_with fail
  exact bodyPost_ret (v := .agg #[.int .i64 1, .int .i64 1, .slice (some ⟨b, o, none⟩) 1 1]) (by simp [results, Try.results16, go_sem, c0, c1, c2]) rfl
    ⟨_, rfl, by simpa using ((Hr.out.far Hne.out).far Hne.out).far Hne.out, ((Hw.out.setCell (Nat.le_refl _) _).setCell (Nat.le_refl _) _).setCell (Nat.le_refl _) _⟩
end Go.Proofs.Ytfncpcmaplhojaa
