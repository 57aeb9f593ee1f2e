/- Contracts of slices.Equal over parts, scrivref.Same, scrivref.In, scrivref.All, scrivkeep.All, scrivkeep.put. scrivkeep's helpers over room: roomy. scrivkeep's helpers over room: mark, filledUp. slices.Clone of parts. spoil of a row of the call's own. Contracts of part.Walk and part.Walker's methods. Two deltas gone through side by side: what is told, step by step; plain lists, no program. -/
import Derived.Test.YtokngfinnieccaaO2
import Derived.Test.YtokngfinnieccaaO3
import Derived.Test.YtokngfinnieccaaO5
import Derived.Deep.DeepAppendRoom
import Derived.Laws.AppendOwnNone
namespace Go.Proofs.Ytokngfinnieccaa
open Go.ChangeShapes Go.WideShapes Go.RowKit
set_option linter.unusedVariables false
set_option linter.unusedSimpArgs false
set_option maxRecDepth 100000
set_option maxHeartbeats 4000000
theorem RdP.built (w : World) (cs : Array Value) (l : List Pt) (n : Nat) (hn : n = l.length) (hc : cs.toList = pc l) (hm : n ≤ maxLen) (ht : ∀ p ∈ l, p.2.2.size ≤ 140737488351232) :
 RdP (w.alloc (.cells cs 88)) (w.heap.size + 1) (some ⟨w.heap.size, 0, none⟩) n n l := by
 refine ⟨hn, ?_, ht⟩
 rw [← hc]
 exact Rd.built w _ cs (by have := congrArg List.length hc; simp only [Array.length_toList, pc_len] at this; omega) hm
theorem same_long (l l' : List Pt) (A A' : Option Addr) (n n' c c' B B' : Nat) (w : World) (h : RdP w B A n c l) (h' : RdP w B' A' n' c' l') (e : n ≠ n') :
 Calls Try.prog 80 #[.slice A n c, .slice A' n' c'] w fun e w' => e = .returned (.bool (decide (l = l'))) ∧ Below w.heap.size w w' := by
 have hne : decide (l = l') = false := by
  rw [decide_eq_false_iff_not]
  rintro rfl
  exact e (h.1.trans h'.1.symm)
 have hb : ((n : Int) == (n' : Int)) = false := by simp; omega
 have h1 := h.le
 have h2 := h'.le
 rw [hne]
 clear h h' hne
 go_enter Try.func80, Try.ntmps80
 go_wp2_with fail
 go_ret
 exact ⟨rfl, Below.refl _ _⟩
theorem same_same (l l' : List Pt) (A A' : Option Addr) (n c c' B B' : Nat) (w : World) (h : RdP w B A n c l) (h' : RdP w B' A' n c' l') :
 Calls Try.prog 80 #[.slice A n c, .slice A' n c'] w fun e w' => e = .returned (.bool (decide (l = l'))) ∧ Below w.heap.size w w' := by
 have hle := h.le
 have H := Lib.hid h
 have H' := Lib.hid h'
 obtain ⟨R, hR⟩ : ∃ R, decide (l = l') = R := ⟨_, rfl⟩
 rw [hR]
 have HR := Lib.hid hR
 clear h h' hR
 go_enter Try.func80, Try.ntmps80
 go_wp2_with fail
 go_loopw [5, 13] (fun i0 i wr => ∃ (k q : Nat), k ≤ n ∧ i = .int .i64 k ∧ wr = w.drewN q ∧ Hid (l.take k = l'.take k)) (fun _ i _ => n - (intOf i).toNat)
 case atStart => exact ⟨0, 0, by omega, rfl, rfl, Lib.hid rfl⟩
 case round =>
  obtain ⟨k, q, hk, rfl, rfl, htk⟩ := hrel
  by_cases hlt : k < n
  · obtain ⟨b, o, rfl, hb, c0, c1, c2⟩ := H.out.at_ k hlt
    obtain ⟨b', o', rfl, hb', c0', c1', c2'⟩ := H'.out.at_ k hlt
    have hkl : k < l.length := by have := H.out.1; omega
    have hkl' : k < l'.length := by have := H'.out.1; omega
    have hs : Hid (l.take (k + 1) = l.take k ++ [l[k]]) := Lib.hid (by rw [List.take_succ_eq_append_getElem hkl])
    have hs' : Hid (l'.take (k + 1) = l'.take k ++ [l'[k]]) := Lib.hid (by rw [List.take_succ_eq_append_getElem hkl'])
    have hd : Hid (l[k] ≠ l'[k] → R = false) := Lib.hid fun h => by
     rw [← HR.out, decide_eq_false_iff_not]
     rintro rfl
     exact h rfl
    generalize l[k] = p at *
    generalize l'[k] = p' at *
    obtain ⟨kd, m, t⟩ := p
    obtain ⟨kd', m', t'⟩ := p'
    simp only at c0 c1 c2 c0' c1' c2'
    have hk0 : (0 : Int) ≤ (k : Int) := by omega
    have hkn : (k : Int) < (n : Int) := by omega
    by_cases e0 : kd = kd'
    · subst e0
      by_cases e1 : m = m'
      · subst e1
        by_cases e2 : t = t'
        · subst e2
          clear hd
          go_wp2_with fail
          go_region
          all_goals
           go_wp2_with fail
           go_roundw
           case rel => exact ⟨k + 1, q + 1, by omega, by go_num, rfl, Lib.hid (by rw [hs.out, hs'.out, htk.out])⟩
           case measure => simp [intOf]; omega
        · have hl : ¬ t.toList = t'.toList := fun h => e2 (bs_ext (by rw [← ByteArray.toList_eq, ← ByteArray.toList_eq]; exact h))
          have hR : R = false := hd.out (by simp; exact e2)
          subst hR
          clear e2 hd
          go_wp2_with fail
          go_region
          all_goals
           go_wp2_with fail
           go_ret
           exact ⟨rfl, below_drewN_ (Below.refl _ _) (q + 1)⟩
      · have hR : R = false := hd.out (by simp; intro h; exact absurd h e1)
        subst hR
        clear hd
        go_wp2_with fail
        go_region
        all_goals
         go_wp2_with fail
         go_ret
         exact ⟨rfl, below_drewN_ (Below.refl _ _) (q + 1)⟩
    · have hR : R = false := hd.out (by simp; intro h; exact absurd h e0)
      subst hR
      clear hd
      go_wp2_with fail
      go_region
      all_goals
       go_wp2_with fail
       go_ret
       exact ⟨rfl, below_drewN_ (Below.refl _ _) (q + 1)⟩
  · have hR : R = true := by
     rw [← HR.out, decide_eq_true_iff]
     have h1 := htk.out
     have h2 := H.out.1
     have h3 := H'.out.1
     rwa [List.take_of_length_le (by omega), List.take_of_length_le (by omega)] at h1
    subst hR
    go_wp2_with fail
    go_ret
    exact ⟨rfl, below_drewN_ (Below.refl _ _) q⟩
theorem same_any (l l' : List Pt) (A A' : Option Addr) (n n' c c' B B' : Nat) (w : World) (h : RdP w B A n c l) (h' : RdP w B' A' n' c' l') :
 Calls Try.prog 35 #[.slice A n c, .slice A' n' c'] w fun e w' => e = .returned (.bool (decide (l = l'))) ∧ Below w.heap.size w w' := by
 have hcall : Calls Try.prog 80 #[.slice A n c, .slice A' n' c'] w fun e w' => e = .returned (.bool (decide (l = l'))) ∧ Below w.heap.size w w' := by
  by_cases e : n = n'
  · subst e; exact same_same l l' A A' n c c' B B' w h h'
  · exact same_long l l' A A' n n' c c' B B' w h h' e
 generalize decide (l = l') = R at *
 have Hc := Lib.hid hcall
 clear h h' hcall
 go_enter Try.func35, Try.ntmps35
 go_wp2_with fail
 refine Hc.out.mono ?_
 rintro e w1 ⟨rfl, hb⟩
 go_wp2_with fail
 go_ret
 exact ⟨rfl, hb⟩
theorem same_true (l l' : List Pt) (A A' : Option Addr) (n n' c c' B B' : Nat) (w : World) (h : RdP w B A n c l) (h' : RdP w B' A' n' c' l') (e : l = l') :
 Calls Try.prog 35 #[.slice A n c, .slice A' n' c'] w fun e w' => e = .returned (.bool true) ∧ Below w.heap.size w w' := by
 have := same_any l l' A A' n n' c c' B B' w h h'
 rwa [decide_eq_true e] at this
theorem pc_one (l : List Pt) : ∀ u ∈ pc l, u.oneCell' = true := by
 intro u hu
 unfold pc at hu
 obtain ⟨p, _, hp⟩ := List.mem_flatMap.1 hu
 simp only [pcells, List.mem_cons, List.not_mem_nil, or_false] at hp
 rcases hp with rfl | rfl | rfl <;> rfl

theorem wpList_app_partsC {ops : Array Oper} {rest : List Oper} {o : Oper} {a : Act} {Q : Exit → Act → World → Prop} (w : World) (hgd : o.guard = none) (s x : Operand)
 (ho : o.op = .call { callee := .builtin .append, args := #[s, x], argTypes := #[25, 25] })
 (B : Nat) (v : Value) (l : List Pt) (hs : a.eval s = v) (hown : OwnP w B v l)
 (A : Option Addr) (m c B' : Nat) (l' : List Pt) (hx : a.eval x = .slice A m c) (hr : RdP w B' A m c l')
 (hn : l.length + m ≤ 4000000) (hB : B ≤ w.heap.size)
 (h : ∀ v' w', OwnP w' B v' (l ++ l') → Below B w w' → wpList Try.prog ops Q rest (a.put o.dst v') w') :
 wpList Try.prog ops Q (o :: rest) a w := by
 obtain ⟨i0, hi, hz0, hz1, hz2⟩ := info_parts Try.info_part
 refine wpList_append_any w hgd s x 25 ho B 88 i0 _ 3 32 Try.underlying25 hi hz0 hz1 hz2 rfl (by omega) v _ _ hs hown B' A m c (pc l') hx ?_ ?_ (by simp only [maxLen]; omega) (by omega) hB ?_
 · refine ⟨by rw [pc_len, hr.1], fun h0 => ?_⟩
   obtain ⟨b, o', e, hb, hc⟩ := hr.2.1.2.2.2 h0
   refine ⟨_, e, hb, fun j u hj => ?_⟩
   have := hc j u hj
   by_cases h00 : j = 0
   · subst h00; simpa [Addr.add] using this
   · simpa [Addr.add, h00] using this
 · intro u hu
   unfold pc at hu
   obtain ⟨p, _, hp⟩ := List.mem_flatMap.1 hu
   simp only [pcells, List.mem_cons, List.not_mem_nil, or_false] at hp
   rcases hp with rfl | rfl | rfl <;> rfl
 · intro v' w' h2 h3 h4
   exact h v' w' (by unfold OwnP; rw [pc_append, List.length_append, ← hr.1]; exact h2) (below_grown h3 hB (own_ge hown))
theorem eqlP_nil (w : World) (a : Option Addr) (l c : Nat) : (binOp .eql 25 (.slice a l c) (.slice none 0 0)).run Try.prog w = .ok (.bool a.isNone) w := by
 simp [binOp, run_equal_slice_nil w 25 88 a l c Try.underlying25]
theorem cloneP_nil (w : World) (n c : Nat) :
 Calls Try.prog 58 #[.slice none n c] w fun e w' => e = .returned (.slice none 0 0) ∧ w' = w := by
 go_enter Try.func58, Try.ntmps58
 have hq := eqlP_nil w none n c
 go_wp2_with fail
 go_ret
 exact ⟨rfl, rfl⟩
theorem spoil_nil (p : Pt) (w : World) :
 Calls Try.prog 59 #[.slice none 0 0, pval p] w fun e w' => e = .returned (.tuple #[]) ∧ Below w.heap.size w w' := by
 obtain ⟨kd, m, t⟩ := p
 unfold pval
 go_enter Try.func59, Try.ntmps59
 go_wp2_with fail
 have hb := (Below.refl w.heap.size w).alloc (Nat.le_refl _) (.cells #[.int .i64 kd, .int .i64 m, .string t] 88)
 generalize w.alloc (.cells #[.int .i64 kd, .int .i64 m, .string t] 88) = W at *
 go_loopw [4, 11] (fun uv iv wr => iv = .int .i64 0 ∧ Hid (Below w.heap.size w wr)) (fun _ iv _ => 0)
 case atStart => exact ⟨rfl, Lib.hid hb⟩
 case round =>
  obtain ⟨rfl, hbw⟩ := hrel
  go_wp2_with fail
  go_end0
  exact ⟨rfl, hbw.out⟩
def Wk (w : World) (B g : Nat) (l : List Pt) (used : Nat) : Prop :=
 B ≤ g ∧ ∃ A n c, Blk w g 208 #[.slice A n c, .int .i64 used] ∧ RdP w B A n c l ∧ WOk l used ∧ ∀ p ∈ l, fitE p = 0
section
variable {w w' : World} {B B' g used : Nat} {l : List Pt} {S : Nat → Prop}
theorem Wk.lt (h : Wk w B g l used) : g < w.heap.size := by obtain ⟨_, A, n, c, hb, _⟩ := h; exact hb.lt
theorem Wk.ok (h : Wk w B g l used) : WOk l used := by obtain ⟨_, A, n, c, _, _, h, _⟩ := h; exact h
theorem Wk.fit (h : Wk w B g l used) : ∀ p ∈ l, fitE p = 0 := by obtain ⟨_, A, n, c, _, _, _, h⟩ := h; exact h
theorem Wk.only (h : Wk w B g l used) (ho : Only w w' S) (h1 : ¬ S g) (h2 : Below B w w') : Wk w' B g l used := by
 obtain ⟨hg, A, n, c, hb, hr, hk⟩ := h
 exact ⟨hg, A, n, c, hb.only ho h1, hr.below h2, hk⟩
theorem Wk.drewN (h : Wk w B g l used) (q : Nat) : Wk (w.drewN q) B g l used := by
 obtain ⟨hg, A, n, c, hb, hr, hk⟩ := h
 exact ⟨hg, A, n, c, hb.drewN q, hr.drewN q, hk⟩
end
theorem walk_any (l : List Pt) (A : Option Addr) (n c B : Nat) (w : World) (h : RdP w B A n c l) (hB : B ≤ w.heap.size) (hk : chk l = 0) :
 Calls Try.prog 118 #[.slice A n c] w fun e w' => e = .returned (.pointer (some ⟨w.heap.size, 0, none⟩)) ∧ Wk w' B w.heap.size l 0 ∧ Below w.heap.size w w' ∧ w'.heap.size = w.heap.size + 1 := by
 have hr := h.alloc hB (.cells #[.slice A n c, .int .i64 0] 208)
 have hw : Wk (w.alloc (.cells #[.slice A n c, .int .i64 0] 208)) B w.heap.size l 0 := by
  refine ⟨hB, A, n, c, Blk.new w _ _, hr, ⟨(chk_parts hk).2.2.1, fun _ => rfl, fun p r e => ?_⟩, (chk_parts hk).2.2.2.2.2⟩
  have hs := (chk_parts hk).2.2.1 p (by rw [e]; simp)
  unfold lenP
  rcases hs with ⟨h1, h2, h3⟩ | ⟨h1, h2, h3⟩
  · rw [if_neg (by omega)]; omega
  · rw [if_pos h1]; omega
 have Hw := Lib.hid hw
 clear h hr hw
 go_enter Try.func118, Try.ntmps118
 go_wp2_with fail
 go_ret
 exact ⟨rfl, Hw.out, (Below.refl _ _).alloc (Nat.le_refl _) _, by simp⟩
theorem Wk.first {w : World} {B g used : Nat} {p : Pt} {r : List Pt} (h : Wk w B g (p :: r) used) : ∃ b o c, Blk w g 208 #[.slice (some ⟨b, o, none⟩) (r.length + 1) c, .int .i64 used] ∧ r.length + 1 ≤ c ∧ c ≤ maxLen ∧ b < B ∧ RdP w B (some ⟨b, o, none⟩) (r.length + 1) c (p :: r) ∧
 w.cell? ⟨b, o, none⟩ = some (.int .i64 p.1) ∧ w.cell? ⟨b, o + 1, none⟩ = some (.int .i64 p.2.1) ∧ w.cell? ⟨b, o + 2, none⟩ = some (.string p.2.2) := by
 obtain ⟨_, A, n, c, hb, hr, hk⟩ := h
 obtain rfl : n = r.length + 1 := hr.1
 obtain ⟨b, o, rfl, h1, h2, h3, h4⟩ := hr.at_ 0 (by omega)
 rw [Nat.zero_mul, Nat.add_zero] at h2 h3 h4
 exact ⟨b, o, c, hb, hr.2.1.1, hr.2.1.2.1, h1, hr, h2, h3, h4⟩
theorem wkind_any (l : List Pt) (used B g : Nat) (w : World) (h : Wk w B g l used) :
 Calls Try.prog 119 #[.pointer (some ⟨g, 0, none⟩)] w fun e w' => e = .returned (.int .i64 (hk l)) ∧ w = w' := by
 rcases l with _ | ⟨p, r⟩
 · obtain ⟨_, A, n, c, hb, hr, _⟩ := h
   obtain rfl : n = 0 := hr.1
   have c0 := hb.cell 0
   clear hb hr
   go_enter Try.func119, Try.ntmps119
   go_wp2_with fail
   go_ret
   exact ⟨rfl, rfl⟩
 · obtain ⟨b, o, c, hb, h1, h2, h3, hrd, d0, d1, d2⟩ := h.first
   obtain ⟨kd, m, t⟩ := p
   have c0 := hb.cell 0
   simp only at d0 d1 d2
   clear hb hrd
   have hm : r.length + 1 ≤ 9223372036854775807 := by unfold maxLen at h2; omega
   clear h
   go_enter Try.func119, Try.ntmps119
   go_wp2_with fail
   go_ret
   exact ⟨rfl, rfl⟩
theorem wsize_raw (p : Pt) (b o c m' g : Nat) (u : Value) (w : World) (hb : Blk w g 208 #[.slice (some ⟨b, o, none⟩) (m' + 1) c, u]) (h1 : m' + 1 ≤ c) (h2 : c ≤ maxLen) (hfp : fitE p = 0)
 (d0 : w.cell? ⟨b, o, none⟩ = some (.int .i64 p.1)) (d1 : w.cell? ⟨b, o + 1, none⟩ = some (.int .i64 p.2.1)) (d2 : w.cell? ⟨b, o + 2, none⟩ = some (.string p.2.2)) :
 Calls Try.prog 128 #[.pointer (some ⟨g, 0, none⟩)] w fun e w' => e = .returned (.int .i64 (lenP p)) ∧ w = w' := by
 have hf := fit_bounds p hfp
 obtain ⟨kd, m, t⟩ := p
 have c0 := hb.cell 0
 simp only at d0 d1 d2 hf
 clear hb hfp
 have hm : m' + 1 ≤ 9223372036854775807 := by unfold maxLen at h2; omega
 rcases hf with ⟨rfl | rfl, hf1, hf2, rfl⟩ | ⟨rfl, rfl, hf1, hf2⟩
 · have e1 : ((lenP (1, m, emp) : Nat) : Int) = m := by show ((m.toNat : Nat) : Int) = m; omega
   rw [e1]
   clear e1
   go_enter Try.func128, Try.ntmps128
   go_wp2_with fail
   go_ret
   exact ⟨rfl, rfl⟩
 · have e1 : ((lenP (3, m, emp) : Nat) : Int) = m := by show ((m.toNat : Nat) : Int) = m; omega
   rw [e1]
   clear e1
   go_enter Try.func128, Try.ntmps128
   go_wp2_with fail
   go_ret
   exact ⟨rfl, rfl⟩
 · have e1 : ((lenP (2, 0, t) : Nat) : Int) = t.size := rfl
   rw [e1]
   clear e1
   go_enter Try.func128, Try.ntmps128
   go_wp2_with fail
   go_ret
   exact ⟨rfl, rfl⟩
theorem wsize_any (p : Pt) (r : List Pt) (used B g : Nat) (w : World) (h : Wk w B g (p :: r) used) :
 Calls Try.prog 128 #[.pointer (some ⟨g, 0, none⟩)] w fun e w' => e = .returned (.int .i64 (lenP p)) ∧ w = w' := by
 obtain ⟨b, o, c, hb, h1, h2, h3, hrd, d0, d1, d2⟩ := h.first
 exact wsize_raw p b o c _ g _ w hb h1 h2 (h.fit p (by simp)) d0 d1 d2
def WS (w0 w : World) : Prop := ∃ q, w = w0.drewN q
theorem WS.refl (w : World) : WS w w := ⟨0, rfl⟩
theorem WS.drew {a b : World} (h : WS a b) : WS a b.drew := by obtain ⟨q, rfl⟩ := h; exact ⟨q + 1, rfl⟩
theorem WS.wk {a b : World} {B g used : Nat} {l : List Pt} (h : Wk a B g l used) (hs : WS a b) : Wk b B g l used := by obtain ⟨q, rfl⟩ := hs; exact h.drewN q
theorem lenP_fit {p : Pt} (h : fitE p = 0) : lenP p ≤ 500 := by
 rcases fit_bounds p h with ⟨h1, h2, h3, h4⟩ | ⟨h1, h2, h3, h4⟩
 · unfold lenP; rw [if_neg (by omega)]; omega
 · unfold lenP; rw [if_pos h1]; omega
theorem wleft_any (p : Pt) (r : List Pt) (used B g : Nat) (w : World) (h : Wk w B g (p :: r) used) :
 Calls Try.prog 121 #[.pointer (some ⟨g, 0, none⟩)] w fun e w' => e = .returned (.int .i64 ((lenP p - used : Nat) : Int)) ∧ WS w w' := by
 have hl := lenP_fit (h.fit p (by simp))
 have hu := h.ok.2.2 p r rfl
 obtain ⟨N, hN⟩ : ∃ N, lenP p = N := ⟨_, rfl⟩
 have hcall : ∀ b, WS w b → Calls Try.prog 128 #[.pointer (some ⟨g, 0, none⟩)] b fun e w' => e = .returned (.int .i64 (N : Int)) ∧ b = w' := by
  intro b hb
  have := wsize_any p r used B g b (hb.wk h)
  rwa [hN] at this
 rw [hN] at hl hu ⊢
 have hcell : w.cell? ⟨g, 1, none⟩ = some (.int .i64 used) := by obtain ⟨_, A, n, c, hb, _⟩ := h; exact hb.cell 1
 have Hcall := Lib.hid hcall
 have hwr : IntKind.i64.wrap ((N : Int) - (used : Int)) = (N : Int) - (used : Int) := IntWalk.i64_in _ (by omega)
 have hsub : ((N - used : Nat) : Int) = (N : Int) - (used : Int) := by omega
 rw [hsub]
 clear hcall h hsub hN
 go_enter Try.func121, Try.ntmps121
 go_wp2_with fail
 go_region_held3 (fun w' => WS w w' ∧ w'.cell? ⟨g, 1, none⟩ = some (.int .i64 used)) (first | assumption | exact ⟨WS.drew (WS.refl _), by assumption⟩ | exact ⟨WS.drew (by assumption), by assumption⟩)
  ((first | (go_at_call 128; refine (Hcall.out _ (And.left (by assumption))).mono ?_; rintro e w9 ⟨rfl, rfl⟩)))
 all_goals
  go_wp2_with fail
  go_ret
  exact ⟨rfl, WS.drew (WS.refl _)⟩
theorem RdP.tail {w : World} {B b o c : Nat} {p : Pt} {r : List Pt} (h : RdP w B (some ⟨b, o, none⟩) (r.length + 1) c (p :: r)) : RdP w B (some ⟨b, o + 3, none⟩) r.length (c - 1) r := by
 obtain ⟨h1, ⟨h2, h3, h4, h5⟩, h6⟩ := h
 refine ⟨rfl, ⟨by omega, by omega, pc_len r, fun hn => ?_⟩, fun q hq => h6 q (by simp [hq])⟩
 obtain ⟨b', o', e, hb, hc⟩ := h5 (by omega)
 injection e with e
 injection e with e1 e2
 subst e1 e2
 refine ⟨b, o + 3, rfl, hb, fun j u hj => ?_⟩
 have := hc (j + 3) u (by
  unfold pc at hj ⊢
  rw [List.flatMap_cons, List.getElem?_append_right (by simp [pcells])]
  simpa [pcells] using hj)
 rwa [show o + 3 + j = o + (j + 3) by omega]
theorem RdP.none_ {w : World} {B c : Nat} {A : Option Addr} (hc : c ≤ maxLen) : RdP w B A 0 c [] := ⟨rfl, ⟨by omega, hc, rfl, fun h => absurd h (by omega)⟩, by simp⟩
theorem take_last {w W1 : World} {g : Nat} {s u : Value} (K1 : Blk W1 g 208 #[s, u]) (O1 : Only w W1 (fun k => k = g)) (x : Value) :
 Blk ((W1.setCell ⟨g, 0, none⟩ x).setCell ⟨g, 1, none⟩ (.int .i64 0)).drew g 208 #[x, .int .i64 0] ∧ Only w ((W1.setCell ⟨g, 0, none⟩ x).setCell ⟨g, 1, none⟩ (.int .i64 0)).drew (fun k => k = g) :=
 ⟨((K1.set_ 0 _).set_ 1 _).drew, ((O1.trans (Only.setSelf _ _ _ _)).trans (Only.setSelf _ _ _ _)).trans (Only.drew _)⟩
def tk (p : Pt) (used n : Nat) : ByteArray := if p.1 = 2 then p.2.2.extract used (used + n) else ⟨#[]⟩
theorem wtake_any (p : Pt) (r : List Pt) (used n B g : Nat) (w : World) (h : Wk w B g (p :: r) used) (hn : used + n ≤ lenP p) :
 Calls Try.prog 120 #[.pointer (some ⟨g, 0, none⟩), .int .i64 n] w fun e w' => e = .returned (.string (tk p used n)) ∧ Wk w' B g (adv (p :: r) used n).1 (adv (p :: r) used n).2 ∧ Only w w' (fun k => k = g) := by
 have hl := lenP_fit (h.fit p (by simp))
 obtain ⟨b, o, c, hb, h1, h2, h3, hrd, d0, d1, d2⟩ := h.first
 have hfit := h.fit p (by simp)
 have hg := h.1
 have hbg : g ≠ b := by omega
 obtain ⟨N, hN⟩ : ∃ N, lenP p = N := ⟨_, rfl⟩
 have hcall : ∀ w', Blk w' g 208 #[.slice (some ⟨b, o, none⟩) (r.length + 1) c, .int .i64 ((used : Int) + n)] ∧ w'.cell? ⟨b, o, none⟩ = w.cell? ⟨b, o, none⟩ ∧ w'.cell? ⟨b, o + 1, none⟩ = w.cell? ⟨b, o + 1, none⟩ ∧ w'.cell? ⟨b, o + 2, none⟩ = w.cell? ⟨b, o + 2, none⟩ →
  Calls Try.prog 128 #[.pointer (some ⟨g, 0, none⟩)] w' fun e w'' => e = .returned (.int .i64 (N : Int)) ∧ w' = w'' := by
  rintro w' ⟨hb', e0, e1, e2⟩
  have := wsize_raw p b o c _ g _ w' hb' h1 h2 hfit (e0.trans d0) (e1.trans d1) (e2.trans d2)
  rwa [hN] at this
 rw [hN] at hl hn
 have hbd := fit_bounds p hfit
 obtain ⟨kd, m, t⟩ := p
 simp only at d0 d1 d2 hbd
 have c0 := hb.cell 0
 have c1 := hb.cell 1
 have f0 := hb.frozen 0
 have f1 := hb.frozen 1
 have l0 := hb.lt
 have Hb := Lib.hid hb
 have Hcall := Lib.hid hcall
 have HN := Lib.hid hN
 have Hh := Lib.hid h
 have hm : r.length + 1 ≤ 9223372036854775807 := by unfold maxLen at h2; omega
 clear hb hcall hN h h3 hfit
 rcases hbd with ⟨hkd, hf1, hf2, rfl⟩ | ⟨rfl, rfl, hf1, hf2⟩
 · have hk2 : (kd == 2) = false := by simp; omega
   have htk : Hid (tk (kd, m, emp) used n = ⟨#[]⟩) := Lib.hid (by unfold tk; rw [if_neg (by simp only; omega)])
   rw [htk.out]
   clear htk hkd
   have hbel := fun k (hk : k ≠ g) => Below.heap_setCell w ⟨g, 1, none⟩ (.int .i64 ((used : Int) + n)) k hk
   have k1 : Blk (w.setCell ⟨g, 1, none⟩ (.int .i64 ((used : Int) + n))) g 208 #[.slice (some ⟨b, o, none⟩) (r.length + 1) c, .int .i64 ((used : Int) + n)] := Hb.out.set_ 1 (.int .i64 ((used : Int) + n))
   have hB := hbel b (Ne.symm hbg)
   have o1 : Only w (w.setCell ⟨g, 1, none⟩ (.int .i64 ((used : Int) + n))) (fun k => k = g) := Only.setCell _ _ _ rfl
   go_enter Try.func120, Try.ntmps120
   go_wp2_with fail
   generalize w.setCell ⟨g, 1, none⟩ (.int .i64 ((used : Int) + n)) = W1 at *
   have hc1 := k1.cell 1
   have hc0 := k1.cell 0
   have g1 := k1.frozen 1
   have g0 := k1.frozen 0
   have m1 := k1.lt
   have hcallW : ∀ w', WS W1 w' → Calls Try.prog 128 #[.pointer (some ⟨g, 0, none⟩)] w' fun e w'' => e = .returned (.int .i64 (N : Int)) ∧ w' = w'' := by
    rintro w' ⟨q, rfl⟩
    exact Hcall.out _ ⟨k1.drewN q, World.cell?_of_block hB, World.cell?_of_block hB, World.cell?_of_block hB⟩
   have HcallW := Lib.hid hcallW
   have K1 := Lib.hid k1
   have O1 := Lib.hid o1
   clear hbel hB k1 o1 hcallW c0 c1 f0 f1 l0
   go_region_held3 (fun w' => WS W1 w' ∧ w'.cell? ⟨g, 1, none⟩ = some (.int .i64 ((used : Int) + n))) (first | assumption | exact ⟨WS.drew (WS.refl _), by assumption⟩ | exact ⟨WS.drew (by assumption), by assumption⟩)
    ((first | (go_at_call 128; refine (HcallW.out _ (And.left (by assumption))).mono ?_; rintro e w9 ⟨rfl, rfl⟩)))
   all_goals
    by_cases hun : used + n = N
    · have hadv : Hid (adv ((kd, m, emp) :: r) used n = (r, 0)) := Lib.hid (by simp only [adv]; rw [if_pos (by rw [HN.out]; exact hun)])
      have hz : ((used : Int) + n == (N : Int)) = true := by simp; omega
      have h1' : (1 : Int) ≤ (r.length : Int) + 1 := by omega
      by_cases hc : c = 1
      · subst hc
        obtain rfl : r = [] := List.eq_nil_of_length_eq_zero (by omega)
        go_wp2_with fail
        go_ret
        refine ⟨rfl, ?_, (take_last K1.out O1.out _).2⟩
        rw [hadv.out]
        have hok := wok_adv Hh.out.ok (n := n) (by rw [HN.out]; omega)
        rw [hadv.out] at hok
        exact ⟨hg, _, _, _, (take_last K1.out O1.out _).1, (RdP.none_ (by decide)).below ((take_last K1.out O1.out _).2.below (by have := Hh.out.lt; omega) fun k hk => by omega), hok, fun q hq => Hh.out.fit q (by simp_all)⟩
      · go_wp2_with fail
        go_ret
        refine ⟨rfl, ?_, (take_last K1.out O1.out _).2⟩
        rw [hadv.out]
        have hok := wok_adv Hh.out.ok (n := n) (by rw [HN.out]; omega)
        rw [hadv.out] at hok
        exact ⟨hg, _, _, _, (take_last K1.out O1.out _).1, hrd.tail.below ((take_last K1.out O1.out _).2.below (by have := Hh.out.lt; omega) fun k hk => by omega), hok, fun q hq => Hh.out.fit q (by simp_all)⟩
    · have hadv : Hid (adv ((kd, m, emp) :: r) used n = ((kd, m, emp) :: r, used + n)) := Lib.hid (by simp only [adv]; rw [if_neg (by rw [HN.out]; exact hun)])
      have hz : ((used : Int) + n == (N : Int)) = false := by simp; omega
      go_wp2_with fail
      go_ret
      refine ⟨rfl, ?_, O1.out.trans (Only.drew _)⟩
      rw [hadv.out]
      have hok := wok_adv Hh.out.ok (n := n) (by rw [HN.out]; omega)
      rw [hadv.out] at hok
      exact ⟨hg, _, _, _, K1.out.drew, hrd.below ((O1.out.trans (Only.drew _)).below (by have := Hh.out.lt; omega) fun k hk => by omega), hok, Hh.out.fit⟩
 · have htk : Hid (tk (2, 0, t) used n = t.extract used (used + n)) := Lib.hid (by unfold tk; rw [if_pos rfl])
   rw [htk.out]
   clear htk
   have hNt : Hid (N = t.size) := Lib.hid (by rw [← HN.out]; rfl)
   have hunt : used + n ≤ t.size := by have := hNt.out; omega
   have hunt2 : (used : Int) + n ≤ (t.size : Int) := by omega
   have hu0 : (0 : Int) ≤ (used : Int) := by omega
   have hu1 : (used : Int) ≤ (used : Int) + n := by omega
   have hw1 : IntKind.i64.wrap ((used : Int) + n) = (used : Int) + n := IntWalk.i64_in _ (by omega)
   have ht1 : ((used : Int) + n).toNat = used + n := by omega
   go_enter Try.func120, Try.ntmps120
   go_wp2_with fail
   go_quiet (fail)
   have k1 : Blk ((w.drewN nq).setCell ⟨g, 1, none⟩ (.int .i64 ((used : Int) + n))) g 208 #[.slice (some ⟨b, o, none⟩) (r.length + 1) c, .int .i64 ((used : Int) + n)] := (Hb.out.drewN nq).set_ 1 (.int .i64 ((used : Int) + n))
   have hB : ((w.drewN nq).setCell ⟨g, 1, none⟩ (.int .i64 ((used : Int) + n))).heap[b]? = w.heap[b]? := Below.heap_setCell (w.drewN nq) ⟨g, 1, none⟩ (.int .i64 ((used : Int) + n)) b (Ne.symm hbg)
   have o1 : Only w ((w.drewN nq).setCell ⟨g, 1, none⟩ (.int .i64 ((used : Int) + n))) (fun k => k = g) := (Only.drewN w nq).trans (Only.setCell _ _ _ rfl)
   go_wp2_with fail
   generalize (w.drewN nq).setCell ⟨g, 1, none⟩ (.int .i64 ((used : Int) + n)) = W1 at *
   have hc1 := k1.cell 1
   have hc0 := k1.cell 0
   have g1 := k1.frozen 1
   have g0 := k1.frozen 0
   have m1 := k1.lt
   have hcallW : ∀ w', WS W1 w' → Calls Try.prog 128 #[.pointer (some ⟨g, 0, none⟩)] w' fun e w'' => e = .returned (.int .i64 (N : Int)) ∧ w' = w'' := by
    rintro w' ⟨q, rfl⟩
    exact Hcall.out _ ⟨k1.drewN q, World.cell?_of_block hB, World.cell?_of_block hB, World.cell?_of_block hB⟩
   have HcallW := Lib.hid hcallW
   have K1 := Lib.hid k1
   have O1 := Lib.hid o1
   clear hB k1 o1 hcallW c0 c1 f0 f1 l0
   go_region_held3 (fun w' => WS W1 w' ∧ w'.cell? ⟨g, 1, none⟩ = some (.int .i64 ((used : Int) + n))) (first | assumption | exact ⟨WS.drew (WS.refl _), by assumption⟩ | exact ⟨WS.drew (by assumption), by assumption⟩)
    ((first | (go_at_call 128; refine (HcallW.out _ (And.left (by assumption))).mono ?_; rintro e w9 ⟨rfl, rfl⟩)))
   all_goals
    by_cases hun : used + n = N
    · have hadv : Hid (adv ((2, 0, t) :: r) used n = (r, 0)) := Lib.hid (by simp only [adv]; rw [if_pos (by rw [HN.out]; exact hun)])
      have hz : ((used : Int) + n == (N : Int)) = true := by simp; omega
      have h1' : (1 : Int) ≤ (r.length : Int) + 1 := by omega
      by_cases hc : c = 1
      · subst hc
        obtain rfl : r = [] := List.eq_nil_of_length_eq_zero (by omega)
        go_wp2_with fail
        go_ret
        refine ⟨rfl, ?_, (take_last K1.out O1.out _).2⟩
        rw [hadv.out]
        have hok := wok_adv Hh.out.ok (n := n) (by rw [HN.out]; omega)
        rw [hadv.out] at hok
        exact ⟨hg, _, _, _, (take_last K1.out O1.out _).1, (RdP.none_ (by decide)).below ((take_last K1.out O1.out _).2.below (by have := Hh.out.lt; omega) fun k hk => by omega), hok, fun q hq => Hh.out.fit q (by simp_all)⟩
      · go_wp2_with fail
        go_ret
        refine ⟨rfl, ?_, (take_last K1.out O1.out _).2⟩
        rw [hadv.out]
        have hok := wok_adv Hh.out.ok (n := n) (by rw [HN.out]; omega)
        rw [hadv.out] at hok
        exact ⟨hg, _, _, _, (take_last K1.out O1.out _).1, hrd.tail.below ((take_last K1.out O1.out _).2.below (by have := Hh.out.lt; omega) fun k hk => by omega), hok, fun q hq => Hh.out.fit q (by simp_all)⟩
    · have hadv : Hid (adv ((2, 0, t) :: r) used n = ((2, 0, t) :: r, used + n)) := Lib.hid (by simp only [adv]; rw [if_neg (by rw [HN.out]; exact hun)])
      have hz : ((used : Int) + n == (N : Int)) = false := by simp; omega
      go_wp2_with fail
      go_ret
      refine ⟨rfl, ?_, O1.out.trans (Only.drew _)⟩
      rw [hadv.out]
      have hok := wok_adv Hh.out.ok (n := n) (by rw [HN.out]; omega)
      rw [hadv.out] at hok
      exact ⟨hg, _, _, _, K1.out.drew, hrd.below ((O1.out.trans (Only.drew _)).below (by have := Hh.out.lt; omega) fun k hk => by omega), hok, Hh.out.fit⟩
end Go.Proofs.Ytokngfinnieccaa
namespace Go.Proofs.Ytokngfinnieccaa
set_option linter.unusedVariables false
set_option linter.unusedSimpArgs false
set_option maxRecDepth 100000
set_option maxHeartbeats 4000000
def compE (a b : List Pt) : Int := if chk a ≠ 0 then chk a else if chk b ≠ 0 then chk b else if nO (units a) ≠ nI (units b) then 4 else 0
def compL (a b : List Pt) : List Pt := if compE a b = 0 then grp (cz (cmp (units a) (units b))) else []
def CI (told xs ys X : List U) : Prop := told ++ cmp xs ys = X ∧ nO xs = nI ys
theorem cu_nat (n : Nat) : cu (n : Int) = List.replicate n (some none) := by simp [cu]
theorem ku_nat (n : Nat) : ku (n : Int) = List.replicate n none := by simp [ku]
theorem pu_len (s : ByteArray) : (pu s).length = s.size := by simp [pu]
section
variable {told ys xs X : List U} {r rx ry : List Pt} {N M : Int} {t s : ByteArray} {u v n : Nat}
theorem cstep_cut (h : CI told (rem ((3, N, t) :: r) u) ys X) (hs : Shape (3, N, t)) (hu : u + n ≤ N.toNat) : CI (told ++ cu n) (rem (adv ((3, N, t) :: r) u n).1 (adv ((3, N, t) :: r) u n).2) ys X := by
 obtain ⟨h1, h2⟩ := h
 rw [rem_cut hs hu] at h1 h2
 rw [cmp_cuts] at h1
 rw [nO_append, nO_cuts] at h2
 exact ⟨by rw [cu_nat, List.append_assoc]; exact h1, by omega⟩
theorem cstep_put (h : CI told xs (rem ((2, M, t) :: r) u) X) (hx : ∀ r, xs ≠ some none :: r) (hs : Shape (2, M, t)) (hu : u + n ≤ t.size) : CI (told ++ pu (t.extract u (u + n))) xs (rem (adv ((2, M, t) :: r) u n).1 (adv ((2, M, t) :: r) u n).2) X := by
 obtain ⟨h1, h2⟩ := h
 rw [rem_put hs hu] at h1 h2
 rw [nI_append, nI_pu] at h2
 unfold pu at h1
 rw [cmp_puts _ _ _ hx] at h1
 exact ⟨by rw [List.append_assoc]; exact h1, by omega⟩
theorem cstep_kk (h : CI told (rem ((1, N, t) :: rx) u) (rem ((1, M, s) :: ry) v) X) (hs : Shape (1, N, t)) (hs' : Shape (1, M, s)) (hu : u + n ≤ N.toNat) (hv : v + n ≤ M.toNat) :
 CI (told ++ ku n) (rem (adv ((1, N, t) :: rx) u n).1 (adv ((1, N, t) :: rx) u n).2) (rem (adv ((1, M, s) :: ry) v n).1 (adv ((1, M, s) :: ry) v n).2) X := by
 obtain ⟨h1, h2⟩ := h
 rw [rem_keep hs hu, rem_keep hs' hv] at h1 h2
 rw [cmp_kk] at h1
 rw [nO_append, nI_append, nO_keeps, nI_keeps] at h2
 exact ⟨by rw [ku_nat, List.append_assoc]; exact h1, by omega⟩
theorem cstep_kc (h : CI told (rem ((1, N, t) :: rx) u) (rem ((3, M, s) :: ry) v) X) (hs : Shape (1, N, t)) (hs' : Shape (3, M, s)) (hu : u + n ≤ N.toNat) (hv : v + n ≤ M.toNat) :
 CI (told ++ cu n) (rem (adv ((1, N, t) :: rx) u n).1 (adv ((1, N, t) :: rx) u n).2) (rem (adv ((3, M, s) :: ry) v n).1 (adv ((3, M, s) :: ry) v n).2) X := by
 obtain ⟨h1, h2⟩ := h
 rw [rem_keep hs hu, rem_cut hs' hv] at h1 h2
 rw [cmp_kc] at h1
 rw [nO_append, nI_append, nO_keeps, nI_cuts] at h2
 exact ⟨by rw [cu_nat, List.append_assoc]; exact h1, by omega⟩
theorem ext_len (hu : u + n ≤ t.size) : (t.extract u (u + n)).size = n := by
 have : (t.extract u (u + n)).data.toList.length = n := by
  rw [ByteArray.data_extract, Array.toList_extract, List.extract_eq_take_drop, List.length_take, List.length_drop]
  have : t.data.toList.length = t.size := rfl
  omega
 exact this
theorem cstep_pk (h : CI told (rem ((2, N, t) :: rx) u) (rem ((1, M, s) :: ry) v) X) (hs : Shape (2, N, t)) (hs' : Shape (1, M, s)) (hu : u + n ≤ t.size) (hv : v + n ≤ M.toNat) :
 CI (told ++ pu (t.extract u (u + n))) (rem (adv ((2, N, t) :: rx) u n).1 (adv ((2, N, t) :: rx) u n).2) (rem (adv ((1, M, s) :: ry) v n).1 (adv ((1, M, s) :: ry) v n).2) X := by
 obtain ⟨h1, h2⟩ := h
 rw [rem_put hs hu, rem_keep hs' hv] at h1 h2
 rw [nO_append, nI_append, nO_pu, nI_keeps, ext_len hu] at h2
 have e : (t.extract u (u + n)).data.toList.length = n := ext_len hu
 have e2 : List.replicate n (none : U) = List.replicate (t.extract u (u + n)).data.toList.length none := by rw [e]
 unfold pu at h1
 rw [e2, cmp_pk] at h1
 exact ⟨by rw [List.append_assoc]; exact h1, by omega⟩
theorem cstep_pc (h : CI told (rem ((2, N, t) :: rx) u) (rem ((3, M, s) :: ry) v) X) (hs : Shape (2, N, t)) (hs' : Shape (3, M, s)) (hu : u + n ≤ t.size) (hv : v + n ≤ M.toNat) :
 CI told (rem (adv ((2, N, t) :: rx) u n).1 (adv ((2, N, t) :: rx) u n).2) (rem (adv ((3, M, s) :: ry) v n).1 (adv ((3, M, s) :: ry) v n).2) X := by
 obtain ⟨h1, h2⟩ := h
 rw [rem_put hs hu, rem_cut hs' hv] at h1 h2
 rw [nO_append, nI_append, nO_pu, nI_cuts, ext_len hu] at h2
 have e : (t.extract u (u + n)).data.toList.length = n := ext_len hu
 have e2 : List.replicate n (some none : U) = List.replicate (t.extract u (u + n)).data.toList.length (some none) := by rw [e]
 unfold pu at h1
 rw [e2, cmp_pc] at h1
 exact ⟨h1, by omega⟩
theorem rem_nocut_keep (hs : Shape (1, N, t)) (hu : u < N.toNat) : ∀ r', rem ((1, N, t) :: r) u ≠ some none :: r' := by
 intro r' e
 rw [rem_keep (n := 1) hs (by omega)] at e
 simp at e
theorem rem_noput_keep (hs : Shape (1, N, t)) (hu : u < N.toNat) : ∀ c r', rem ((1, N, t) :: r) u ≠ some (some c) :: r' := by
 intro c r' e
 rw [rem_keep (n := 1) hs (by omega)] at e
 simp at e
theorem rem_noput_cut (hs : Shape (3, N, t)) (hu : u < N.toNat) : ∀ c r', rem ((3, N, t) :: r) u ≠ some (some c) :: r' := by
 intro c r' e
 rw [rem_cut (n := 1) hs (by omega)] at e
 simp at e
theorem rem_nocut_put (hs : Shape (2, N, t)) (hu : u < t.size) : ∀ r', rem ((2, N, t) :: r) u ≠ some none :: r' := by
 intro r' e
 rw [rem_put (n := 1) hs (by omega)] at e
 have hl : (pu (t.extract u (u + 1))).length = 1 := by rw [pu_len, ext_len (by omega)]
 obtain ⟨x, hx⟩ := List.length_eq_one_iff.1 hl
 have hm : x ∈ pu (t.extract u (u + 1)) := by rw [hx]; simp
 rw [hx] at e
 unfold pu at hm
 obtain ⟨b, _, rfl⟩ := List.mem_map.1 hm
 simp at e
theorem nI_rem_keep (hs : Shape (1, N, t)) (hu : u < N.toNat) : 1 ≤ nI (rem ((1, N, t) :: r) u) ∧ 1 ≤ nO (rem ((1, N, t) :: r) u) := by
 rw [rem_keep (n := 1) hs (by omega), nI_append, nO_append, nI_keeps, nO_keeps]; omega
theorem nI_rem_cut (hs : Shape (3, N, t)) (hu : u < N.toNat) : 1 ≤ nI (rem ((3, N, t) :: r) u) := by
 rw [rem_cut (n := 1) hs (by omega), nI_append, nI_cuts]; omega
theorem nO_rem_put (hs : Shape (2, N, t)) (hu : u < t.size) : 1 ≤ nO (rem ((2, N, t) :: r) u) := by
 rw [rem_put (n := 1) hs (by omega), nO_append, nO_pu, ext_len (by omega)]; omega
end
theorem CI.len {told xs ys X : List U} (h : CI told xs ys X) : told.length ≤ X.length := by
 rw [← h.1, List.length_append]; omega
theorem CI.fin {told X : List U} (h : CI told [] [] X) : told = X := by
 have := h.1
 simpa [cmp, lead] using this
theorem comp_chk {a b : List Pt} (h : compE a b = 0) : chk a = 0 ∧ chk b = 0 ∧ nO (units a) = nI (units b) ∧ compL a b = grp (cz (cmp (units a) (units b))) ∧ chk (compL a b) = 0 := by
 have e : compL a b = grp (cz (cmp (units a) (units b))) := by unfold compL; rw [if_pos h]
 unfold compE at h
 split at h
 · omega
 · split at h
   · omega
   · split at h
     · omega
     · rename_i h1 h2 h3
       have ha : chk a = 0 := by omega
       have hb : chk b = 0 := by omega
       have hn : nO (units a) = nI (units b) := by omega
       refine ⟨ha, hb, hn, e, ?_⟩
       rw [e]
       exact good_cz (by rw [nI_cmp _ _ hn]; exact (chk_parts ha).2.2.2.1) (by rw [nO_cmp _ _ hn]; exact (chk_parts hb).2.2.2.2.1)
theorem comp_units {a b : List Pt} (h : compE a b = 0) : units (compL a b) = cz (cmp (units a) (units b)) := by rw [(comp_chk h).2.2.2.1, units_grp]
theorem comp_err {a b : List Pt} (h : compE a b ≠ 0) : compL a b = [] := by unfold compL; rw [if_neg h]
theorem comp_zero {a b : List Pt} (ha : chk a = 0) (hb : chk b = 0) (hn : nO (units a) = nI (units b)) : compE a b = 0 := by
 unfold compE; rw [if_neg (by omega), if_neg (by omega), if_neg (by omega)]
theorem comp_sizes {a b : List Pt} (h : compE a b = 0) : nI (units (compL a b)) = nI (units a) ∧ nO (units (compL a b)) = nO (units b) := by
 rw [comp_units h, nI_cz, nO_cz, nI_cmp _ _ (comp_chk h).2.2.1, nO_cmp _ _ (comp_chk h).2.2.1]; exact ⟨rfl, rfl⟩
theorem comp_eq {a b a' b' : List Pt} (h : compE a b = 0) (h' : compE a' b' = 0) (he : cz (cmp (units a) (units b)) = cz (cmp (units a') (units b'))) : compL a b = compL a' b' := by
 rw [(comp_chk h).2.2.2.1, (comp_chk h').2.2.2.1, he]
end Go.Proofs.Ytokngfinnieccaa
