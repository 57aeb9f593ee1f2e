/- KeepMore: the walk. With more of the last, and with pins, no less is kept. -/
import Derived.Test.YtcclcgapcnjcdaaKeepMoreLaw
import Derived.Test.YtcclcgapcnjcdaaKeepFn
import Derived.Test.YtcclcgapcnjcdaaCloneI
import Derived.Test.YtcclcgapcnjcdaaOpenKeep
import Derived.Test.YtcclcgapcnjcdaaWithin
namespace Go.Proofs.Ytcclcgapcnjcdaa
open Go.ChangeShapes Go.WideShapes Go.RowKit
set_option linter.unusedVariables false
set_option linter.unusedSimpArgs false
set_option maxRecDepth 100000
set_option maxHeartbeats 4000000

theorem RdI.stepK {w w' : World} {n c : Nat} {A : Option Addr} {l : List Int} (h : RdI w w.heap.size A n c l) (hb : Below w.heap.size w w') : RdI w' w'.heap.size A n c l := (h.below hb).more hb.size
theorem RdI.stepKA {w : World} {n c : Nat} {A : Option Addr} {l : List Int} (h : RdI w w.heap.size A n c l) (o : Obj) : RdI (w.alloc o) (w.alloc o).heap.size A n c l := (h.alloc (Nat.le_refl _) o).more (by simp)
theorem cloneI_any (l : List Int) (A : Option Addr) (n c : Nat) (w : World) (h : RdI w w.heap.size A n c l) (hn : n ≤ 4000000) :
    Calls Try.prog 18 #[.slice A n c] w fun e w' => ∃ v, e = .returned v ∧ OwnI w' w.heap.size v l ∧ Below w.heap.size w w' := by
  cases A with
  | none =>
    refine (clone_nil w n c).mono ?_
    rintro e w' ⟨rfl, rfl⟩
    have hl : l = [] := by
      rcases Nat.eq_zero_or_pos n with h0 | h0
      · exact List.eq_nil_of_length_eq_zero (by rw [← h.1]; exact h0)
      · obtain ⟨b, o, e, _⟩ := h.at_ 0 h0
        cases e
    subst hl
    exact ⟨_, rfl, OwnI.nil _ _, Below.refl _ _⟩
  | some a => exact clone_some l a n c w h hn
theorem kp_drew {w w5 W : World} {x0 x1 x2 : Value} (h : (Below w.heap.size w W ∧ Below w5.heap.size w5 W ∧ W.cell? ⟨w.heap.size, 0, none⟩ = some x0 ∧ W.cell? ⟨w.heap.size, 1, none⟩ = some x1 ∧ W.cell? ⟨w.heap.size, 2, none⟩ = some x2)) : (Below w.heap.size w W.drew ∧ Below w5.heap.size w5 W.drew ∧ W.drew.cell? ⟨w.heap.size, 0, none⟩ = some x0 ∧ W.drew.cell? ⟨w.heap.size, 1, none⟩ = some x1 ∧ W.drew.cell? ⟨w.heap.size, 2, none⟩ = some x2) := ⟨h.1.drew, h.2.1.drew, h.2.2.1, h.2.2.2.1, h.2.2.2.2⟩
theorem kp_alloc {w w5 W : World} {x0 x1 x2 : Value} (hlt : w.heap.size < w5.heap.size) (h : (Below w.heap.size w W ∧ Below w5.heap.size w5 W ∧ W.cell? ⟨w.heap.size, 0, none⟩ = some x0 ∧ W.cell? ⟨w.heap.size, 1, none⟩ = some x1 ∧ W.cell? ⟨w.heap.size, 2, none⟩ = some x2)) (o : Obj) : (Below w.heap.size w (W.alloc o) ∧ Below w5.heap.size w5 (W.alloc o) ∧ (W.alloc o).cell? ⟨w.heap.size, 0, none⟩ = some x0 ∧ (W.alloc o).cell? ⟨w.heap.size, 1, none⟩ = some x1 ∧ (W.alloc o).cell? ⟨w.heap.size, 2, none⟩ = some x2) := by
  obtain ⟨q0, q1, q2, q3, q4⟩ := h
  have hs1 := q0.size
  have hs2 := q1.size
  have e (i : Nat) : (W.alloc o).cell? ⟨w.heap.size, i, none⟩ = W.cell? ⟨w.heap.size, i, none⟩ := World.cell?_alloc_lt W o _ (by show w.heap.size < _; omega)
  exact ⟨q0.alloc hs1 o, q1.alloc hs2 o, (e 0).trans q2, (e 1).trans q3, (e 2).trans q4⟩
theorem step_app_intsG {ops : Array Oper} {o : Oper} {a : Act} {K : Act → World → Prop} {Q : Exit → Act → World → Prop} {E : Prop} (w : World) (hgd : o.guard = none) (s x : Operand)
    (ho : o.op = .call { callee := .builtin .append, args := #[s, x], argTypes := #[22, 22] })
    (B : Nat) (v : Value) (l : List Int) (hs : a.eval s = v) (hown : OwnI w B v l)
    (A : Option Addr) (m c B' : Nat) (l' : List Int) (hx : a.eval x = .slice A m c) (hr : RdI w B' A m c l')
    (hn : l.length + m ≤ 4000000) (hB : B ≤ w.heap.size)
    (h : ∀ v' w', OwnI w' B v' (l ++ l') → Below B w w' → w.grownBy w' v.ownBlock → K (a.put o.dst v') w') :
    if Region.wanted o (yielded ops a.tmps) = true then Oper.wp Try.prog o a w K Q else E := by
  obtain ⟨i0, hi, hz0, hz1, hz2⟩ := info_parts Try.info_int
  refine step_append_any w hgd s x 22 ho B 3 i0 _ 1 8 Try.underlying22 hi hz0 hz1 hz2 rfl (by omega) v _ _ hs hown B' A m c (ic l') hx ?_ ?_ (by simp only [maxLen]; omega) (by omega) hB ?_
  · refine ⟨by rw [ic_len, hr.1]; omega, fun h0 => ?_⟩
    obtain ⟨b, o', e, hb, hc⟩ := hr.2.2.2.2 h0
    refine ⟨_, e, hb, fun j u hj => ?_⟩
    have := hc j u hj
    by_cases h00 : j = 0
    · subst h00; simpa [Addr.add] using this
    · simpa [Addr.add, h00] using this
  · intro u hu
    unfold ic at hu
    obtain ⟨p, _, rfl⟩ := List.mem_map.1 hu
    rfl
  · intro v' w' h2 h3 h4
    refine h v' w' ?_ (below_grown h3 hB (own_ge hown)) h3
    unfold OwnI
    have e : ic (l ++ l') = ic l ++ ic l' := by simp [ic]
    rw [e, List.length_append, ← hr.1]
    exact h2
theorem cell_farK {w : World} {g i : Nat} {v : Value} {p : Addr} (h : g ≠ p.block) : (w.setCell ⟨g, i, none⟩ v).cell? p = w.cell? p := by
  simp only [World.cell?]
  rw [Below.heap_setCell w ⟨g, i, none⟩ v p.block (by simpa using fun h2 => h h2.symm)]
theorem RdI.farK {w : World} {B b o n c g i : Nat} {l : List Int} {v : Value} (h : RdI w B (some ⟨b, o, none⟩) n c l) (hne : g ≠ b) : RdI (w.setCell ⟨g, i, none⟩ v) B (some ⟨b, o, none⟩) n c l := by
  refine ⟨h.1, ⟨h.2.1, h.2.2.1, h.2.2.2.1, fun hn => ?_⟩⟩
  obtain ⟨b', o', e, hb, hc⟩ := h.2.2.2.2 hn
  refine ⟨b', o', e, hb, fun j u hj => ?_⟩
  rw [cell_farK (by injection e with e; injection e with e1 e2; show g ≠ b'; rw [← e1]; exact hne)]
  exact hc j u hj
theorem own_some {w : World} {B : Nat} {v : Value} {l : List Int} (h : OwnI w B v l) (n : Nat) (hl : l.length = n) (h0 : 0 < n) : ∃ b c, v = .slice (some ⟨b, 0, none⟩) n c ∧ v.ownBlock = some b ∧ RdI w w.heap.size (some ⟨b, 0, none⟩) n c l := by
  subst hl
  obtain ⟨A, c, rfl, hr⟩ := h.rd
  rcases h.2 with ⟨hv, hn⟩ | ⟨g', cap, cur, hv, _⟩
  · omega
  · injection hv with h1 h2 h3
    subst h1
    exact ⟨g', c, rfl, rfl, hr⟩
theorem built1 (w : World) (u : Int) : RdI (w.alloc (.cells #[.int .i64 u] 3)) (w.heap.size + 1) (some ⟨w.heap.size, 0, none⟩) 1 1 [u] := RdI.built w #[.int .i64 u] [u] 1 rfl rfl (by decide)
theorem built1b (w : World) (o : Obj) (u : Int) : RdI ((w.alloc o).alloc (.cells #[.int .i64 u] 3)) (w.heap.size + 2) (some ⟨w.heap.size + 1, 0, none⟩) 1 1 [u] := by
  have := built1 (w.alloc o) u
  simpa using this
theorem built1c (w : World) (o : Obj) (u : Int) : RdI ((w.alloc (.cells #[.int .i64 u] 3)).alloc o) (w.heap.size + 1) (some ⟨w.heap.size, 0, none⟩) 1 1 [u] := (built1 w u).alloc (by simp) o
theorem kp_step {w w5 W W' : World} {x0 x1 x2 : Value} (hlt : w.heap.size < w5.heap.size) (h : (Below w.heap.size w W ∧ Below w5.heap.size w5 W ∧ W.cell? ⟨w.heap.size, 0, none⟩ = some x0 ∧ W.cell? ⟨w.heap.size, 1, none⟩ = some x1 ∧ W.cell? ⟨w.heap.size, 2, none⟩ = some x2)) (hb : Below w5.heap.size W W') : (Below w.heap.size w W' ∧ Below w5.heap.size w5 W' ∧ W'.cell? ⟨w.heap.size, 0, none⟩ = some x0 ∧ W'.cell? ⟨w.heap.size, 1, none⟩ = some x1 ∧ W'.cell? ⟨w.heap.size, 2, none⟩ = some x2) := by
  obtain ⟨q0, q1, q2, q3, q4⟩ := h
  exact ⟨q0.trans (hb.mono (by omega)), q1.trans hb, (hb.cell (by show w.heap.size < _; omega)).trans q2, (hb.cell (by show w.heap.size < _; omega)).trans q3, (hb.cell (by show w.heap.size < _; omega)).trans q4⟩
theorem kp_set3 {w w5 W : World} {x0 x1 x2 a0 a1 a2 : Value} {g : Nat} (hlt : w.heap.size < w5.heap.size) (hg : w5.heap.size ≤ g) (h : (Below w.heap.size w W ∧ Below w5.heap.size w5 W ∧ W.cell? ⟨w.heap.size, 0, none⟩ = some x0 ∧ W.cell? ⟨w.heap.size, 1, none⟩ = some x1 ∧ W.cell? ⟨w.heap.size, 2, none⟩ = some x2)) : (Below w.heap.size w (((W.setCell ⟨g, 0, none⟩ a0).setCell ⟨g, 1, none⟩ a1).setCell ⟨g, 2, none⟩ a2) ∧ Below w5.heap.size w5 (((W.setCell ⟨g, 0, none⟩ a0).setCell ⟨g, 1, none⟩ a1).setCell ⟨g, 2, none⟩ a2) ∧ (((W.setCell ⟨g, 0, none⟩ a0).setCell ⟨g, 1, none⟩ a1).setCell ⟨g, 2, none⟩ a2).cell? ⟨w.heap.size, 0, none⟩ = some x0 ∧ (((W.setCell ⟨g, 0, none⟩ a0).setCell ⟨g, 1, none⟩ a1).setCell ⟨g, 2, none⟩ a2).cell? ⟨w.heap.size, 1, none⟩ = some x1 ∧ (((W.setCell ⟨g, 0, none⟩ a0).setCell ⟨g, 1, none⟩ a1).setCell ⟨g, 2, none⟩ a2).cell? ⟨w.heap.size, 2, none⟩ = some x2) :=
  kp_step hlt h ((((Below.refl _ W).setCell (p := ⟨g, 0, none⟩) hg a0).setCell (p := ⟨g, 1, none⟩) hg a1).setCell (p := ⟨g, 2, none⟩) hg a2)
theorem kp_call {w w5 W W' : World} {x0 x1 x2 : Value} (hlt : w.heap.size < w5.heap.size) (h : (Below w.heap.size w W ∧ Below w5.heap.size w5 W ∧ W.cell? ⟨w.heap.size, 0, none⟩ = some x0 ∧ W.cell? ⟨w.heap.size, 1, none⟩ = some x1 ∧ W.cell? ⟨w.heap.size, 2, none⟩ = some x2)) (hb : Below W.heap.size W W') : (Below w.heap.size w W' ∧ Below w5.heap.size w5 W' ∧ W'.cell? ⟨w.heap.size, 0, none⟩ = some x0 ∧ W'.cell? ⟨w.heap.size, 1, none⟩ = some x1 ∧ W'.cell? ⟨w.heap.size, 2, none⟩ = some x2) := kp_step hlt h (hb.mono h.2.1.size)
theorem blkC (w : World) (o : Obj) (t : TypeId) (cs : Array Value) : Blk ((w.alloc o).alloc (.cells cs t)) (w.heap.size + 1) t cs := by
  have := Blk.new (w.alloc o) t cs
  simpa using this
theorem keepMore_ok (last every : Int) (p : List Int) (A : Option Addr) (n c : Nat) (head : Nat) (more pin : Int) (w : World) (h : RdI w w.heap.size A n c p) (hk : kchk last every p = 0) (hh : (head : Int) ≤ 640) (h1 : last ≤ 1000) (h2 : n ≤ 15) :
    Calls Try.prog 3 #[pol last every A n c, .int .i64 head, .int .i64 more, .int .i64 pin] w fun e w' => e = .returned (.bool true) ∧ Below w.heap.size w w' := by
  have hl1 := (kchk_zero _ _ _ hk).1
  have hkm := Lib.hid (fun i j : Int => @kchk_more last every p i j hk h1 (by rw [← h.1]; exact h2))
  have hbw0 : Below w.heap.size w w := Below.refl _ _
  have H := Lib.hid h
  have Hk := Lib.hid hk
  have h2i : (n : Int) ≤ 15 := by omega
  clear h hk
  unfold pol
  go_enter Try.func3, Try.ntmps3
  have hbw1 := hbw0.alloc hbw0.size (.cells #[.int .i64 last, .int .i64 every, .slice A n c] 24)
  have kd1 := Blk.new w 24 #[.int .i64 last, .int .i64 every, .slice A n c]
  go_wp2_with fail
  refine (keep_good 2 0 [] 3 none 0 0 0 _ ⟨rfl, Rd.nil _ _ _⟩ (Nat.zero_le _) (by decide) (by decide)).mono ?_
  rintro e1 w2 ⟨⟨v1, rfl, hown1⟩, hb2⟩
  have hbw2 := hbw1.trans (hb2.mono hbw1.size)
  have kd2 := kd1.below hb2 kd1.lt
  clear hb2
  rw [show kL 2 0 [] ((3 : Nat) : Int) (3 + 1) = [2, 3] from by decide] at hown1
  obtain ⟨A1, c1, rfl, hrd1⟩ := hown1.rd
  have Hrd1 := Lib.hid hrd1
  clear hown1 hrd1
  go_wp2_with fail
  have hbw3 := hbw2.alloc hbw2.size (.cells #[.int .i64 2, .int .i64 3] 3)
  have kd3 := kd2.alloc (.cells #[.int .i64 2, .int .i64 3] 3)
  have Hr3 := Lib.hid (RdI.built w2 #[.int .i64 2, .int .i64 3] [2, 3] 2 rfl rfl (by decide))
  refine (equal_any [2, 3] [2, 3] A1 _ 2 2 c1 2 _ _ _ (Hrd1.out.alloc (Nat.le_refl _) _) Hr3.out rfl).mono ?_
  rintro e w4 ⟨rfl, hb4⟩
  have hbw4 := hbw3.trans (hb4.mono hbw3.size)
  have kd4 := kd3.below hb4 kd3.lt
  clear hb4 Hr3 Hrd1
  have d40 := kd4.cell 0
  have d41 := kd4.cell 1
  have d42 := kd4.cell 2
  have ld4 := kd4.lt
  go_wp2_with fail
  refine (keep_good last every p head A n c w.heap.size w4 (H.out.below hbw4) hbw4.size Hk.out hh).mono ?_
  rintro e w5 ⟨⟨v5, rfl, hown5⟩, hb5⟩
  have hbw5 := hbw4.trans (hb5.mono hbw4.size)
  have kd5 := kd4.below hb5 kd4.lt
  obtain ⟨La, hLa⟩ : ∃ L, kL last every p head (head + 1) = L := ⟨_, rfl⟩
  rw [hLa] at hown5
  obtain ⟨A5, c5, rfl, hr5⟩ := hown5.rd
  obtain ⟨n5, hn5⟩ : ∃ m, La.length = m := ⟨_, rfl⟩
  rw [hn5] at hr5 ⊢
  have Hr5 := Lib.hid hr5
  have HLa := Lib.hid hLa
  clear hb5 hown5 hr5 hLa hn5 d40 d41 d42 ld4
  have d50 := kd5.cell 0
  have d51 := kd5.cell 1
  have d52 := kd5.cell 2
  have ld5 := kd5.lt
  have hI := wi_lt more 1000 (by decide)
  have hJ := wi_lt pin 1000 (by decide)
  have Gi : Hid (∀ w' : World, Calls Try.prog 17 #[.int .i64 more, .int .i64 1000] w' fun e w'' => e = .returned (.int .i64 (wi more 1000)) ∧ w' = w'') := Lib.hid (fun w' : World => within_any more 1000 w' (by decide) (by decide))
  have Gj : Hid (∀ w' : World, Calls Try.prog 17 #[.int .i64 pin, .int .i64 1000] w' fun e w'' => e = .returned (.int .i64 (wi pin 1000)) ∧ w' = w'') := Lib.hid (fun w' : World => within_any pin 1000 w' (by decide) (by decide))
  generalize wi more 1000 = I at *
  generalize wi pin 1000 = J at *
  have hI1 : (I : Int) ≤ 999 := by omega
  have hI0 : (0 : Int) ≤ (I : Int) := by omega
  have hJ1 : (J : Int) ≤ 999 := by omega
  have hJ0 : (0 : Int) ≤ (J : Int) := by omega
  clear hI hJ
  go_wp2_with fail
  have hwr : IntKind.i64.wrap (last + (I : Int)) = last + (I : Int) := IntWalk.i64_in _ (by omega)
  have Hcl : Hid (∀ w' : World, (Below w.heap.size w w' ∧ Below w5.heap.size w5 w' ∧ w'.cell? ⟨w.heap.size, 0, none⟩ = some (.int .i64 last) ∧ w'.cell? ⟨w.heap.size, 1, none⟩ = some (.int .i64 every) ∧ w'.cell? ⟨w.heap.size, 2, none⟩ = some (.slice A n c)) → Calls Try.prog 18 #[.slice A n c] w' fun e w'' => ∃ v, e = .returned v ∧ OwnI w'' w'.heap.size v p ∧ Below w'.heap.size w' w'' ∧ (Below w.heap.size w w'' ∧ Below w5.heap.size w5 w'' ∧ w''.cell? ⟨w.heap.size, 0, none⟩ = some (.int .i64 last) ∧ w''.cell? ⟨w.heap.size, 1, none⟩ = some (.int .i64 every) ∧ w''.cell? ⟨w.heap.size, 2, none⟩ = some (.slice A n c))) := Lib.hid fun w' hS => by
    obtain ⟨q0, q1, q2, q3, q4⟩ := hS
    have hs1 := q0.size
    have hs2 := q1.size
    refine (cloneI_any p A n c w' ((H.out.below q0).more hs1) (by omega)).mono ?_
    rintro e w'' ⟨v, rfl, ho, hb⟩
    have hlt : w.heap.size < w'.heap.size := by omega
    exact ⟨v, rfl, ho, hb, q0.trans (hb.mono hs1), q1.trans (hb.mono hs2), (hb.cell (by show w.heap.size < _; omega)).trans q2, (hb.cell (by show w.heap.size < _; omega)).trans q3, (hb.cell (by show w.heap.size < _; omega)).trans q4⟩
  have HnB : Hid (Blk (w5.alloc (.cells #[.int .i64 0, .int .i64 0, .slice none 0 0] 24)).drew w5.heap.size 24 #[.int .i64 0, .int .i64 0, .slice none 0 0]) := Lib.hid (Blk.drew (Blk.new w5 _ _))
  have HnBl : Hid (w5.heap.size < (w5.alloc (.cells #[.int .i64 0, .int .i64 0, .slice none 0 0] 24)).drew.heap.size) := Lib.hid (show w5.heap.size < (w5.alloc (.cells #[.int .i64 0, .int .i64 0, .slice none 0 0] 24)).heap.size by rw [World.size_alloc]; exact Nat.lt_succ_self _)
  have Hpl := Lib.hid H.out.1
  have hal : p.length + 1 ≤ 4000000 := by have := H.out.1; omega
  have hS5 : Below w.heap.size w w5 ∧ Below w5.heap.size w5 w5 ∧ w5.cell? ⟨w.heap.size, 0, none⟩ = some (.int .i64 last) ∧ w5.cell? ⟨w.heap.size, 1, none⟩ = some (.int .i64 every) ∧ w5.cell? ⟨w.heap.size, 2, none⟩ = some (.slice A n c) := ⟨hbw5, Below.refl _ _, d50, d51, d52⟩
  go_region_held3 (fun w' => Below w.heap.size w w' ∧ Below w5.heap.size w5 w' ∧ w'.cell? ⟨w.heap.size, 0, none⟩ = some (.int .i64 last) ∧ w'.cell? ⟨w.heap.size, 1, none⟩ = some (.int .i64 every) ∧ w'.cell? ⟨w.heap.size, 2, none⟩ = some (.slice A n c)) (first | with_reducible assumption | with_reducible exact kp_set3 ld5 (by first | exact Nat.le_refl _ | exact hS9.2.1.size | exact Nat.le_succ_of_le hS9.2.1.size) gS | with_reducible exact kp_drew (by assumption) | with_reducible exact kp_alloc ld5 (by assumption) _ | with_reducible exact kp_drew (kp_alloc ld5 hS5 _) | with_reducible exact kp_alloc ld5 (kp_drew hS5) _ | with_reducible exact kp_alloc ld5 (kp_alloc ld5 (by assumption) _) _ | with_reducible exact kp_alloc ld5 (kp_alloc ld5 (kp_drew (by assumption)) _) _)
    ((first | (go_at_call 17; (first | with_reducible refine (Gi.out _).mono ?_ | with_reducible refine (Gj.out _).mono ?_); rintro e w9 ⟨rfl, rfl⟩)
            | (go_at_call 18; go_loud (with_reducible refine (Hcl.out _ (by assumption)).mono ?_); rintro e w9 ⟨v9, rfl, ho9', hb9, hS9⟩; first
              | ((with_reducible have nB := Blk.below HnB.out hb9 HnBl.out); have ho9 : OwnI w9 w5.heap.size v9 p := own_base ho9' (by first | exact Nat.le_refl _ | exact Nat.le_of_lt HnBl.out))
              | (have ho9 : OwnI w9 w5.heap.size v9 p := own_base ho9' (by first | exact Nat.le_refl _ | exact Nat.le_of_lt HnBl.out)))
            | ((refine step_app_intsG (w9.alloc (.cells #[.int .i64 (J : Int)] 3)) rfl (.tmp 63) (.tmp 66) rfl w5.heap.size v9 p (by simp [Act.eval, Act.put]) (World.ownsRow.alloc ho9 _) (some ⟨w9.heap.size, 0, none⟩) 1 1 _ [(J : Int)] (by simp [Act.eval, Act.put]) (built1 w9 _) hal (by have := hS9.2.1.size; simp; omega) ?_; intro v4 w4 k1 k2 k3; have gS := kp_step ld5 (kp_alloc ld5 hS9 (.cells #[.int .i64 (J : Int)] 3)) k2; first | (have kB := (Blk.alloc nB (.cells #[.int .i64 (J : Int)] 3)).grown k3 (Ne.symm (own_blk_ne (World.ownsRow.alloc ho9 _) (Blk.alloc nB (.cells #[.int .i64 (J : Int)] 3)) (by decide))); obtain ⟨b4, c4, rfl, hv4, hr4⟩ := own_some k1 (n + 1) (by simp; have := Hpl.out; omega) (by omega); have n0 := kB.cell 0; have n1 := kB.cell 1; have n2 := kB.cell 2; have m0 := kB.frozen 0; have m1 := kB.frozen 1; have m2 := kB.frozen 2; have hne : w5.heap.size ≠ b4 := fun e => own_blk_ne k1 kB (by decide) (by rw [hv4, e])) | (skip; obtain ⟨b4, c4, rfl, hv4, hr4⟩ := own_some k1 (n + 1) (by simp; have := Hpl.out; omega) (by omega))))
            | ((refine step_app_intsG ((w9.alloc (.cells #[.int .i64 0, .int .i64 0, .slice none 0 0] 24)).alloc (.cells #[.int .i64 (J : Int)] 3)) rfl (.tmp 63) (.tmp 66) rfl w5.heap.size v9 p (by simp [Act.eval, Act.put]) (World.ownsRow.alloc (World.ownsRow.alloc ho9 _) _) (some ⟨w9.heap.size + 1, 0, none⟩) 1 1 _ [(J : Int)] (by simp [Act.eval, Act.put]) (built1b w9 _ _) hal (by have := hS9.2.1.size; simp; omega) ?_; intro v4 w4 k1 k2 k3; have gS := kp_step ld5 (kp_alloc ld5 (kp_alloc ld5 hS9 (.cells #[.int .i64 0, .int .i64 0, .slice none 0 0] 24)) (.cells #[.int .i64 (J : Int)] 3)) k2; have kB := (Blk.alloc (Blk.new w9 24 #[.int .i64 0, .int .i64 0, .slice none 0 0]) (.cells #[.int .i64 (J : Int)] 3)).grown k3 (Ne.symm (own_blk_ne (World.ownsRow.alloc (World.ownsRow.alloc ho9 _) _) (Blk.alloc (Blk.new w9 24 #[.int .i64 0, .int .i64 0, .slice none 0 0]) (.cells #[.int .i64 (J : Int)] 3)) (by decide))); obtain ⟨b4, c4, rfl, hv4, hr4⟩ := own_some k1 (n + 1) (by simp; have := Hpl.out; omega) (by omega); have n0 := kB.cell 0; have n1 := kB.cell 1; have n2 := kB.cell 2; have m0 := kB.frozen 0; have m1 := kB.frozen 1; have m2 := kB.frozen 2; have hne : w9.heap.size ≠ b4 := fun e => own_blk_ne k1 kB (by decide) (by rw [hv4, e])))
            | ((refine step_app_intsG ((w9.alloc (.cells #[.int .i64 (J : Int)] 3)).alloc (.cells #[.int .i64 0, .int .i64 0, .slice none 0 0] 24)) rfl (.tmp 63) (.tmp 66) rfl w5.heap.size v9 p (by simp [Act.eval, Act.put]) (World.ownsRow.alloc (World.ownsRow.alloc ho9 _) _) (some ⟨w9.heap.size, 0, none⟩) 1 1 _ [(J : Int)] (by simp [Act.eval, Act.put]) (built1c w9 _ _) hal (by have := hS9.2.1.size; simp; omega) ?_; intro v4 w4 k1 k2 k3; have gS := kp_step ld5 (kp_alloc ld5 (kp_alloc ld5 hS9 (.cells #[.int .i64 (J : Int)] 3)) (.cells #[.int .i64 0, .int .i64 0, .slice none 0 0] 24)) k2; have kB := (blkC w9 (.cells #[.int .i64 (J : Int)] 3) 24 #[.int .i64 0, .int .i64 0, .slice none 0 0]).grown k3 (Ne.symm (own_blk_ne (World.ownsRow.alloc (World.ownsRow.alloc ho9 _) _) (blkC w9 (.cells #[.int .i64 (J : Int)] 3) 24 #[.int .i64 0, .int .i64 0, .slice none 0 0]) (by decide))); obtain ⟨b4, c4, rfl, hv4, hr4⟩ := own_some k1 (n + 1) (by simp; have := Hpl.out; omega) (by omega); have n0 := kB.cell 0; have n1 := kB.cell 1; have n2 := kB.cell 2; have m0 := kB.frozen 0; have m1 := kB.frozen 1; have m2 := kB.frozen 2; have hne : w9.heap.size + 1 ≠ b4 := fun e => own_blk_ne k1 kB (by decide) (by rw [hv4, e])))))
  all_goals
    have hcall := fun (W : World) (hr : RdI W w4.heap.size (some ⟨b4, 0, none⟩) (n + 1) c4 (p ++ [(J : Int)])) (hB : w4.heap.size ≤ W.heap.size) => keep_good (last + (I : Int)) every (p ++ [(J : Int)]) head (some ⟨b4, 0, none⟩) (n + 1) c4 w4.heap.size W hr hB (hkm.out (I : Int) (J : Int) hI0 (by omega) hJ0 (by omega)) hh
    unfold pol at hcall
    have Hcall := Lib.hid hcall
    clear hcall
    go_wp2_with fail
    first
      | with_reducible refine (Hcall.out _ (hr4.alloc (Nat.le_refl _) _) (by simp)).mono ?_
      | with_reducible refine (Hcall.out _ (((hr4.farK hne).farK hne).farK hne) (by simp)).mono ?_
    rintro e w10 ⟨⟨v10, rfl, hown10⟩, hb10⟩
    have gT := by first | with_reducible exact kp_call ld5 (kp_alloc ld5 gS _) hb10 | with_reducible exact kp_call ld5 (kp_set3 ld5 (by first | exact Nat.le_refl _ | exact hS9.2.1.size | exact Nat.le_succ_of_le hS9.2.1.size) gS) hb10
    obtain ⟨Lb, hLb⟩ : ∃ L, kL (last + (I : Int)) every (p ++ [(J : Int)]) head (head + 1) = L := ⟨_, rfl⟩
    rw [hLb] at hown10
    obtain ⟨A10, c10, rfl, hr10⟩ := hown10.rd
    have hall : ∀ x ∈ La, x ∈ Lb := by
      intro x hx
      rw [← HLa.out] at hx
      rw [← hLb]
      exact kL_more _ _ hI0 x hx
    have Hr10 := Lib.hid hr10
    have Hall := Lib.hid hall
    clear hown10 hr10 hall hLb hb10
    go_wp2_with fail
    have hmf : (Instr.makeFunc (.func 20) #[] #[.pointer (some ⟨w10.heap.size, 0, none⟩)]).run Try.prog (w10.alloc (.cells #[.slice A10 Lb.length c10] 22)) = .ok (.func (.func 20) #[] #[.pointer (some ⟨w10.heap.size, 0, none⟩)]) (w10.alloc (.cells #[.slice A10 Lb.length c10] 22)) := rfl
    first
      | refine (containsFn_any La Lb A5 A10 n5 c5 _ c10 w10.heap.size w5.heap.size w10.heap.size _ ((Hr5.out.below gT.2.1).alloc gT.2.1.size _) (Hr10.out.alloc (Nat.le_refl _) _) ((Blk.new w10 _ _).cell 0) Hall.out).mono ?_
      | (go_wp2_with fail; refine (containsFn_any La Lb A5 A10 n5 c5 _ c10 w10.heap.size w5.heap.size w10.heap.size _ ((Hr5.out.below gT.2.1).alloc gT.2.1.size _) (Hr10.out.alloc (Nat.le_refl _) _) ((Blk.new w10 _ _).cell 0) Hall.out).mono ?_)
    rintro e w11 ⟨rfl, rfl⟩
    go_wp2_with fail
    go_ret
    exact ⟨rfl, gT.1.alloc gT.1.size _⟩
theorem keepMore_err (last every : Int) (p : List Int) (A : Option Addr) (n c : Nat) (head : Int) (more pin : Int) (w : World) (h : RdI w w.heap.size A n c p) (E : Int) (hE : E ≠ 0) (hc : ∀ w4 : World, Below w.heap.size w w4 → Calls Try.prog 15 #[.agg #[.int .i64 last, .int .i64 every, .slice A n c], .int .i64 head] w4 fun e w' => e = .returned (.tuple #[.slice none 0 0, .int .i64 E]) ∧ Below w4.heap.size w4 w') :
    Calls Try.prog 3 #[pol last every A n c, .int .i64 head, .int .i64 more, .int .i64 pin] w fun e w' => e = .returned (.bool true) ∧ Below w.heap.size w w' := by
  have hne : (E != 0) = true := by simpa using hE
  have hne2 : (E == 0) = false := by simpa using hE
  have hbw0 : Below w.heap.size w w := Below.refl _ _
  have Hc := Lib.hid hc
  clear h hc hE
  unfold pol
  go_enter Try.func3, Try.ntmps3
  have hbw1 := hbw0.alloc hbw0.size (.cells #[.int .i64 last, .int .i64 every, .slice A n c] 24)
  have kd1 := Blk.new w 24 #[.int .i64 last, .int .i64 every, .slice A n c]
  go_wp2_with fail
  refine (keep_good 2 0 [] 3 none 0 0 0 _ ⟨rfl, Rd.nil _ _ _⟩ (Nat.zero_le _) (by decide) (by decide)).mono ?_
  rintro e1 w2 ⟨⟨v1, rfl, hown1⟩, hb2⟩
  have hbw2 := hbw1.trans (hb2.mono hbw1.size)
  have kd2 := kd1.below hb2 kd1.lt
  clear hb2
  rw [show kL 2 0 [] ((3 : Nat) : Int) (3 + 1) = [2, 3] from by decide] at hown1
  obtain ⟨A1, c1, rfl, hrd1⟩ := hown1.rd
  have Hrd1 := Lib.hid hrd1
  clear hown1 hrd1
  go_wp2_with fail
  have hbw3 := hbw2.alloc hbw2.size (.cells #[.int .i64 2, .int .i64 3] 3)
  have kd3 := kd2.alloc (.cells #[.int .i64 2, .int .i64 3] 3)
  have Hr3 := Lib.hid (RdI.built w2 #[.int .i64 2, .int .i64 3] [2, 3] 2 rfl rfl (by decide))
  refine (equal_any [2, 3] [2, 3] A1 _ 2 2 c1 2 _ _ _ (Hrd1.out.alloc (Nat.le_refl _) _) Hr3.out rfl).mono ?_
  rintro e w4 ⟨rfl, hb4⟩
  have hbw4 := hbw3.trans (hb4.mono hbw3.size)
  have kd4 := kd3.below hb4 kd3.lt
  clear hb4 Hr3 Hrd1
  have d40 := kd4.cell 0
  have d41 := kd4.cell 1
  have d42 := kd4.cell 2
  have ld4 := kd4.lt
  go_wp2_with fail
  refine (Hc.out w4 hbw4).mono ?_
  rintro e1 w5 ⟨rfl, hb5⟩
  have hbw5 := hbw4.trans (hb5.mono hbw4.size)
  clear hb5 d40 d41 d42 ld4
  go_wp2_with fail
  go_ret
  exact ⟨rfl, hbw5⟩
theorem keepMore_far (last every : Int) (p : List Int) (A : Option Addr) (n c : Nat) (head : Nat) (more pin : Int) (w : World) (h : RdI w w.heap.size A n c p) (hk : kchk last every p = 0) (hh : (head : Int) ≤ 640) (h1 : 1000 < last ∨ (15 : Int) < n) :
    Calls Try.prog 3 #[pol last every A n c, .int .i64 head, .int .i64 more, .int .i64 pin] w fun e w' => e = .returned (.bool true) ∧ Below w.heap.size w w' := by
  have hbw0 : Below w.heap.size w w := Below.refl _ _
  have hle := h.le
  have H := Lib.hid h
  have Hk := Lib.hid hk
  clear h hk
  rcases (show 1000 < last ∨ (last ≤ 1000 ∧ (15 : Int) < n) by omega) with h2 | ⟨h2, h3⟩
  all_goals
    clear h1
    unfold pol
    go_enter Try.func3, Try.ntmps3
    have hbw1 := hbw0.alloc hbw0.size (.cells #[.int .i64 last, .int .i64 every, .slice A n c] 24)
    have kd1 := Blk.new w 24 #[.int .i64 last, .int .i64 every, .slice A n c]
    go_wp2_with fail
    refine (keep_good 2 0 [] 3 none 0 0 0 _ ⟨rfl, Rd.nil _ _ _⟩ (Nat.zero_le _) (by decide) (by decide)).mono ?_
    rintro e1 w2 ⟨⟨v1, rfl, hown1⟩, hb2⟩
    have hbw2 := hbw1.trans (hb2.mono hbw1.size)
    have kd2 := kd1.below hb2 kd1.lt
    clear hb2
    rw [show kL 2 0 [] ((3 : Nat) : Int) (3 + 1) = [2, 3] from by decide] at hown1
    obtain ⟨A1, c1, rfl, hrd1⟩ := hown1.rd
    have Hrd1 := Lib.hid hrd1
    clear hown1 hrd1
    go_wp2_with fail
    have hbw3 := hbw2.alloc hbw2.size (.cells #[.int .i64 2, .int .i64 3] 3)
    have kd3 := kd2.alloc (.cells #[.int .i64 2, .int .i64 3] 3)
    have Hr3 := Lib.hid (RdI.built w2 #[.int .i64 2, .int .i64 3] [2, 3] 2 rfl rfl (by decide))
    refine (equal_any [2, 3] [2, 3] A1 _ 2 2 c1 2 _ _ _ (Hrd1.out.alloc (Nat.le_refl _) _) Hr3.out rfl).mono ?_
    rintro e w4 ⟨rfl, hb4⟩
    have hbw4 := hbw3.trans (hb4.mono hbw3.size)
    have kd4 := kd3.below hb4 kd3.lt
    clear hb4 Hr3 Hrd1
    have d40 := kd4.cell 0
    have d41 := kd4.cell 1
    have d42 := kd4.cell 2
    have ld4 := kd4.lt
    go_wp2_with fail
    refine (keep_good last every p head A n c w.heap.size w4 (H.out.below hbw4) hbw4.size Hk.out hh).mono ?_
    rintro e w5 ⟨⟨v5, rfl, hown5⟩, hb5⟩
    have hbw5 := hbw4.trans (hb5.mono hbw4.size)
    have kd5 := kd4.below hb5 kd4.lt
    obtain ⟨A5, c5, rfl, hr5⟩ := hown5.rd
    clear hb5 hown5 hr5 d40 d41 d42 ld4
    have d50 := kd5.cell 0
    have d52 := kd5.cell 2
    have ld5 := kd5.lt
    generalize (kL last every p head (head + 1)).length = n5 at *
    go_wp2_with fail
    go_ret
    exact ⟨rfl, hbw5⟩
theorem walk_KeepMore (v : Value) (x : Int × Int × List Int) (head : Int) (wh : (Lit.int .i64 head).wf = true) (more : Int) (wm : (Lit.int .i64 more).wf = true) (pin : Int) (wp : (Lit.int .i64 pin).wf = true) (w : World) (hx : IsPolicy w v x) :
    Calls Try.prog 3 #[v, .int .i64 head, .int .i64 more, .int .i64 pin] w fun e w' => e = .returned (.bool true) ∧ Below w.heap.size w w' := by
  obtain ⟨last, every, p⟩ := x
  obtain ⟨A, n, c, rfl, h⟩ := hx
  simp only at h ⊢
  by_cases hk : kchk last every p = 0
  · by_cases hh : head < 0 ∨ 640 < head
    · exact keepMore_err last every p A n c head more pin w h 1 (by omega) fun w4 hb => keep_arg last every p head A n c w.heap.size w4 (h.below hb) hb.size hk hh
    · obtain ⟨k, rfl⟩ : ∃ k : Nat, head = (k : Int) := ⟨head.toNat, by omega⟩
      by_cases h1 : 1000 < last ∨ (15 : Int) < n
      · exact keepMore_far last every p A n c k more pin w h hk (by omega) h1
      · exact keepMore_ok last every p A n c k more pin w h hk (by omega) (by omega) (by omega)
  · exact keepMore_err last every p A n c head more pin w h _ hk fun w4 hb => keep_err last every p head A n c w.heap.size w4 (h.below hb) hb.size hk
end Go.Proofs.Ytcclcgapcnjcdaa
