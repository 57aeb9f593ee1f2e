/- Contracts of part.Maker's methods: Keep, Done. What part.Norm says; plain lists, no program. Contracts of part.Norm, part.Idle, scrivref.In. code.Read's contract, the result as a slice that is read. scrivkeep's helpers over room: spoil. Contracts of slices.Equal over parts, scrivref.Same, scrivref.In, scrivref.All, scrivkeep.All, scrivkeep.put. scrivkeep's helpers over room: roomy. scrivkeep's helpers over room: mark, filledUp. slices.Clone of parts. spoil of a row of the call's own. Contracts of part.Walk and part.Walker's methods. Two deltas gone through side by side: what is told, step by step; plain lists, no program. Contract of comp.Of. Written by gen_comp.py. Slices of ints: read, searched, compared. Two deltas of one text gone through: what is told, step by step; plain lists, no program. Contract of meet.Of. Written by gen_meet.py. Rows of parts of the call's own, short, of short texts. Contract of hot.rev. Contract of hot.Next. The laws' helper first: a revision that puts a text; histories just boxed. slices.Clone of a history, and a revision behind it. -/
import Derived.Test.YtokngfinnieccaaW5
import Derived.Test.YtokngfinnieccaaW4
import Derived.Test.YtokngfinnieccaaW3
import Derived.Deep.DeepAppendRoom
import Derived.Laws.AppendOwnNone
import Derived.Test.YtokngfinnieccaaW2
import Derived.Test.YtokngfinnieccaaW1
namespace Go.Proofs.Ytokngfinnieccaa
open Go.ChangeShapes Go.WideShapes Go.RowKit
set_option linter.unusedVariables false
set_option linter.unusedSimpArgs false
set_option maxRecDepth 100000
set_option maxHeartbeats 4000000

theorem bump_snoc (n : Int) (l : List Pt) (p : Pt) : bump n (l ++ [p]) = if p.1 = 1 then l ++ [(1, p.2.1 + n, emp)] else l ++ [p] ++ [(1, n, emp)] := by
  induction l with
  | nil => simp only [List.nil_append, bump]; split <;> rfl
  | cons q l ih =>
    rcases hl : l ++ [p] with _ | ⟨x, r⟩
    · simp at hl
    · have e : bump n (q :: l ++ [p]) = q :: bump n (l ++ [p]) := by
        rw [List.cons_append, hl]; rfl
      rw [e, ih]
      split <;> simp
theorem pc_set (I : List Pt) (k m u : Int) (t : ByteArray) : (pc (I ++ [(k, m, t)])).set (I.length * 3 + 1) (.int .i64 u) = pc (I ++ [(k, u, t)]) := by
  rw [pc_append, pc_append, List.set_append_right _ _ (by rw [pc_len]; omega), pc_len, show I.length * 3 + 1 - I.length * 3 = 1 by omega]
  rfl
/-- the last part grows -/
theorem keep_last {w : World} {B g h cp : Nat} {I : List Pt} {m n : Int} {t : ByteArray} {P C : Value} (hb : Blk w g 105 #[.slice (some ⟨h, 0, none⟩) (I.length + 1) cp, P, C])
    (ho : OwnP w B (.slice (some ⟨h, 0, none⟩) (I.length + 1) cp) (I ++ [(1, m, t)])) (hgh : g ≠ h) :
    Blk (w.setCell ⟨h, I.length * 3 + 1, none⟩ (.int .i64 (m + n))) g 105 #[.slice (some ⟨h, 0, none⟩) (I.length + 1) cp, P, C] ∧
      OwnP (w.setCell ⟨h, I.length * 3 + 1, none⟩ (.int .i64 (m + n))) B (.slice (some ⟨h, 0, none⟩) (I.length + 1) cp) (I ++ [(1, m + n, t)]) ∧
      MFr w (w.setCell ⟨h, I.length * 3 + 1, none⟩ (.int .i64 (m + n))) g (some h) (some h) := by
  refine ⟨hb.far hgh _, ?_, ?_, .inl rfl⟩
  · unfold OwnP at ho ⊢
    rw [List.length_append, List.length_singleton] at ho ⊢
    have := (World.ownsRow.stored ho (I.length * 3 + 1) (.int .i64 (m + n))).1
    rwa [pc_set] at this
  · exact (Only.setSelf w h (I.length * 3 + 1) (.int .i64 (m + n))).mono fun k _ hk => .inr (by rw [hk])
theorem flush_any {B g : Nat} {ob : Option Nat} {us : List U} {o : List Pt} {p : ByteArray} {c : Int} {w : World} (h : MkS w B g ob o p c) (hr : MRep us o p c) (hl : us.length ≤ 99999999) (hB : B ≤ w.heap.size) :
    Calls Try.prog 99 #[.pointer (some ⟨g, 0, none⟩)] w fun e w' => e = .returned (.tuple #[]) ∧ FlP w B g ob (grp (cz us)) w' := by
  rw [← hr.flush]
  obtain ⟨v, hb, ho, hob⟩ := h
  obtain ⟨h1, _, h3, _, _, _⟩ := hr.bounds
  unfold pend
  rcases str_cases p with rfl | ⟨hp, hp1⟩
  · rw [if_pos (show (⟨#[]⟩ : ByteArray).size = 0 from rfl), List.nil_append]
    by_cases hc : 0 < c
    · rw [if_pos hc]
      exact flush_cut g v o B ob c w hb ho hob hc (by omega) hB
    · rw [if_neg hc, List.append_nil]
      exact flush_none g v o B ob c w hb ho hob (by omega)
  · rw [if_neg (by omega)]
    by_cases hc : 0 < c
    · rw [if_pos hc, ← List.append_assoc]
      exact flush_both g v o B ob p c w hb ho hob hc hp (by omega) hB
    · rw [if_neg hc, List.append_nil]
      exact flush_put g v o B ob p c w hb ho hob (by omega) hp (by omega) hB
theorem mdone_any {B g : Nat} {ob : Option Nat} {us : List U} {w : World} (h : Mk w B g ob us) (hl : us.length ≤ 99999999) (hB : B ≤ w.heap.size) :
    Calls Try.prog 67 #[.pointer (some ⟨g, 0, none⟩)] w fun e w' => ∃ v ob', e = .returned v ∧ OwnP w' B v (grp (cz us)) ∧ v.ownBlock = ob' ∧ MFr w w' g ob ob' := by
  obtain ⟨o, p, c, hs, hr⟩ := h
  have Hs := Lib.hid hs
  have Hr := Lib.hid hr
  clear hs hr
  go_enter Try.func67, Try.ntmps67
  go_wp2_with fail
  refine (flush_any Hs.out Hr.out hl hB).mono ?_
  rintro e w1 ⟨rfl, ob1, ⟨v, hb, ho, hob⟩, hfr⟩
  have c0 := hb.cell 0
  have hl1 := hb.lt
  have Hfin : Hid (∃ v_1 ob', Ending.returned v = .returned v_1 ∧ OwnP w1 B v_1 (grp (cz us)) ∧ v_1.ownBlock = ob' ∧ MFr w w1 g ob ob') := Lib.hid ⟨v, ob1, rfl, ho, hob, hfr⟩
  obtain ⟨A1, c1, hv⟩ := ho.form
  subst hv
  clear hb ho hob hfr
  go_wp2_with fail
  go_ret
  exact Hfin.out
theorem mkeep_zero {B g : Nat} {ob : Option Nat} {us : List U} {w : World} (h : Mk w B g ob us) :
    Calls Try.prog 64 #[.pointer (some ⟨g, 0, none⟩), .int .i64 0] w fun e w' => e = .returned (.tuple #[]) ∧ w = w' := by
  clear h
  go_enter Try.func64, Try.ntmps64
  go_wp2_with fail
  refine bodyPost_ret (results_none rfl _ _ _) rfl ?_
  exact ⟨rfl, rfl⟩
theorem mkeep_pos {B g : Nat} {ob : Option Nat} {us : List U} {w : World} (n : Int) (h : Mk w B g ob us) (hl : us.length ≤ 99999990) (hB : B ≤ w.heap.size) (hn : 0 < n) (hn2 : n ≤ 100000000) :
    Calls Try.prog 64 #[.pointer (some ⟨g, 0, none⟩), .int .i64 n] w fun e w' => e = .returned (.tuple #[]) ∧ ∃ ob', Mk w' B g ob' (us ++ ku n) ∧ MFr w w' g ob ob' := by
  obtain ⟨o, p, c, hs, hr⟩ := h
  have hk := hr.keep hn
  rw [hr.flush] at hk
  have Hk := Lib.hid hk
  have Hs := Lib.hid hs
  have Hr := Lib.hid hr
  have hne : (n == 0) = false := by simp; omega
  have hfine := fine_grp (cz us)
  have hbd := len_units (grp (cz us)) hfine
  rw [units_grp, len_cz] at hbd
  have Hlg := Lib.hid (len_grp (cz us))
  have Hlc := Lib.hid (len_cz us)
  have Hfine := Lib.hid hfine
  have Hbd := Lib.hid hbd
  clear hs hr hk hfine hbd
  go_enter Try.func64, Try.ntmps64
  go_wp2_with fail
  refine (flush_any Hs.out Hr.out (by omega) hB).mono ?_
  rintro e w1 ⟨rfl, ob1, ⟨v, hb, ho, hob⟩, hfr⟩
  have hB1 : B ≤ w1.heap.size := by have := hfr.1.2.2.2.1; omega
  generalize hO : grp (cz us) = O at *
  have hlenO : O.length ≤ 99999990 := by have := Hlg.out; have := Hlc.out; omega
  clear hO
  have Hfr := Lib.hid hfr
  have Hob := Lib.hid hob
  have c0 := hb.cell 0
  have f0 := hb.frozen 0
  have c1 := hb.cell 1
  have c2 := hb.cell 2
  have hl1 := hb.lt
  have Hne := Lib.hid (Ne.symm (own_blk_ne (t := 105) ho hb (by decide)))
  have Hb := Lib.hid hb
  have Ho := Lib.hid ho
  clear hb hob hfr
  rcases List.eq_nil_or_concat O with rfl | ⟨I, l, rfl⟩
  · obtain ⟨A, cp, hv⟩ := ho.form_ (n := 0) rfl
    subst hv
    clear ho
    have hbn : Hid (bump n [] = [] ++ [(1, n, emp)]) := Lib.hid rfl
    go_wp2_with (first | (at_builtin; refine wpList_app_part _ rfl (.tmp 44) (.tmp 47) rfl B _ [] rfl Ho.out 1 n ⟨#[]⟩ 1 rfl (by simp) hB1 ?_; intro v2 w2 g1 g2 g3 g4; obtain ⟨A2, c2', rfl⟩ := g1.form_ (n := 1) rfl; have hb1 := Blk.grown Hb.out g3 Hne.out; have d0 := hb1.cell 0; have d1 := hb1.cell 1; have d2 := hb1.cell 2; have e0 := hb1.frozen 0; have e1 := hb1.frozen 1; have e2 := hb1.frozen 2; have l1 := hb1.lt))
    go_end0
    have Hf := fl_app Hb.out Ho.out Hob.out g1 g3 g4
    exact ⟨rfl, _, ⟨_, _, _, ⟨_, Hf.1, Hf.2.1, rfl⟩, by have := Hk.out; rw [hbn.out] at this; exact this⟩, Hfr.out.trans Hf.2.2⟩
  · rw [List.concat_eq_append] at *
    have hpc : pc (I ++ [l]) ≠ [] := by rw [pc_append]; simp [pc, pcells]
    obtain ⟨h, cp, hv0, hnc, hcm⟩ := own_nil ho hpc
    have hv := hv0
    rw [List.length_append, List.length_singleton] at hv hlenO
    subst hv
    have hcell := fun j hj => World.ownsRow.cellAt (show w1.ownsRow B 88 3 (.slice (some ⟨h, 0, none⟩) (I.length + 1) cp) (I.length + 1) (pc (I ++ [l])) from by have := ho; unfold OwnP at this; rwa [List.length_append, List.length_singleton] at this) j hj
    have hlast : (I ++ [l])[I.length]'(by simp) = l := by simp
    obtain ⟨p0, p1, p2⟩ := pc_at (I ++ [l]) I.length (by simp)
    rw [hlast] at p0 p1 p2
    have hc0 := (hcell (I.length * 3) (by omega)).trans p0
    have hc1 := (hcell (I.length * 3 + 1) (by omega)).trans p1
    have hfz : w1.frozen? ⟨h, I.length * 3 + 1, none⟩ = false := World.ownsRow.frozenAt (show w1.ownsRow B 88 3 (.slice (some ⟨h, 0, none⟩) (I.length + 1) cp) (I.length + 1) (pc (I ++ [l])) from by have := ho; unfold OwnP at this; rwa [List.length_append, List.length_singleton] at this) _
    have hsh := Hfine.out l (by simp)
    have hbl := Hbd.out l (by simp)
    have hlt := own_lt ho h rfl
    obtain ⟨kd, m, t⟩ := l
    simp only at hc0 hc1
    have hI0 : (0 : Int) ≤ (I.length : Int) := by omega
    have hgh : g ≠ h := fun e => Hne.out (by rw [e]; rfl)
    have Hbs := Lib.hid (bump_snoc n I (kd, m, t))
    clear hcell p0 p1 p2 hlast hpc hv0
    by_cases hkd : kd = 1
    · subst hkd
      have hm : 1 ≤ m ∧ m ≤ us.length ∧ t = emp := by
        rcases hsh with ⟨_, h2, h3⟩ | ⟨h2, _, _⟩
        · simp only [lenP] at hbl h2 h3
          simp at hbl
          exact ⟨h2, by omega, h3⟩
        · simp at h2
      obtain ⟨hm1, hm2, rfl⟩ := hm
      have hm3 : m ≤ 99999990 := by omega
      clear hsh hbl ho hm2
      go_wp2_with fail
      refine bodyPost_ret (results_none rfl _ _ _) rfl ?_
      have hK := keep_last (n := n) Hb.out Ho.out hgh
      have hob : ob1 = some h := by rw [← Hob.out]; rfl
      subst hob
      refine ⟨rfl, some h, ⟨_, _, _, ⟨_, hK.1, hK.2.1, rfl⟩, ?_⟩, Hfr.out.trans hK.2.2⟩
      have h1 := Hk.out
      have h2 := Hbs.out
      rw [if_pos trivial] at h2
      rw [h2] at h1
      exact h1
    · have hkd' : (kd == 1) = false := by simpa using hkd
      have hlb : (I ++ [((kd, m, t) : Pt)]).length ≤ 100000000 := by rw [List.length_append, List.length_singleton]; omega
      have Hkd := Lib.hid hkd
      clear hsh hbl ho hkd
      go_wp2_with (first | (at_builtin; refine wpList_app_part _ rfl (.tmp 44) (.tmp 47) rfl B _ (I ++ [((kd, m, t) : Pt)]) rfl Ho.out 1 n ⟨#[]⟩ 1 rfl hlb hB1 ?_; intro v2 w2 g1 g2 g3 g4; obtain ⟨A2, c2', rfl⟩ := g1.form_ (n := I.length + 2) (by simp); have hb1 := Blk.grown Hb.out g3 Hne.out; have d0 := hb1.cell 0; have d1 := hb1.cell 1; have d2 := hb1.cell 2; have e0 := hb1.frozen 0; have e1 := hb1.frozen 1; have e2 := hb1.frozen 2; have l1 := hb1.lt))
      go_end0
      have Hf := fl_app Hb.out Ho.out Hob.out g1 g3 g4
      refine ⟨rfl, _, ⟨_, _, _, ⟨_, Hf.1, Hf.2.1, rfl⟩, ?_⟩, Hfr.out.trans Hf.2.2⟩
      have h1 := Hk.out
      rw [Hbs.out, if_neg Hkd.out] at h1
      exact h1
theorem mkeep_any {B g : Nat} {ob : Option Nat} {us : List U} {w : World} (n : Int) (h : Mk w B g ob us) (hl : us.length ≤ 99999990) (hB : B ≤ w.heap.size) (hn : 0 ≤ n) (hn2 : n ≤ 100000000) :
    Calls Try.prog 64 #[.pointer (some ⟨g, 0, none⟩), .int .i64 n] w fun e w' => e = .returned (.tuple #[]) ∧ ∃ ob', Mk w' B g ob' (us ++ ku n) ∧ MFr w w' g ob ob' := by
  rcases (show n = 0 ∨ 0 < n by omega) with rfl | h0
  · refine (mkeep_zero h).mono ?_
    rintro e w' ⟨rfl, rfl⟩
    exact ⟨rfl, ob, by simpa [ku] using h, MFr.refl _ _ _⟩
  · exact mkeep_pos n h hl hB h0 hn2
end Go.Proofs.Ytokngfinnieccaa
namespace Go.Proofs.Ytokngfinnieccaa
set_option linter.unusedVariables false
set_option linter.unusedSimpArgs false

theorem text_good {l : List Pt} (h : chk l = 0) : ∀ p ∈ l, p.2.2.size ≤ 140737488351232 := fun p hp => by
  have := ((fitE_zero p).1 ((chk_parts h).2.2.2.2.2 p hp)).2.2
  omega
end Go.Proofs.Ytokngfinnieccaa
namespace Go.Proofs.Ytokngfinnieccaa
open Go.ChangeShapes Go.WideShapes Go.RowKit
set_option linter.unusedVariables false
set_option linter.unusedSimpArgs false
set_option maxRecDepth 100000
set_option maxHeartbeats 4000000

section
variable {w w' : World} {B g : Nat} {ob ob' : Option Nat} {us : List U} {S : Nat → Prop}
theorem Mk.ge (h : Mk w B g ob us) : ∀ k, ob = some k → B ≤ k ∧ k < w.heap.size ∧ k ≠ g := by
  obtain ⟨o', p, c, ⟨v, h1, h2, h3⟩, h4⟩ := h
  intro k hk
  rw [← h3] at hk
  refine ⟨own_ge h2 k hk, own_lt h2 k hk, fun e => ?_⟩
  subst e
  exact own_blk_ne (t := 105) h2 h1 (by decide) hk
theorem MFr.below_ (h : MFr w w' g ob ob') (hB : B ≤ w.heap.size) (hg : B ≤ g) (ho : ∀ k, ob = some k → B ≤ k) : Below B w w' := h.1.below hB fun k hk => by
  rcases hk with rfl | hk
  · exact hg
  · exact ho k hk
theorem Mk.fresh (w : World) (o : Obj) : Mk (w.alloc (.cells #[.slice none 0 0, .string ⟨#[]⟩, .int .i64 0] 105)) w.heap.size w.heap.size none [] :=
  ⟨[], emp, 0, ⟨_, Blk.new w _ _, OwnP.nil _ _, rfl⟩, MRep.new⟩
end
end Go.Proofs.Ytokngfinnieccaa
namespace Go.Proofs.Ytokngfinnieccaa
open Go.ChangeShapes Go.WideShapes Go.RowKit
set_option linter.unusedVariables false
set_option linter.unusedSimpArgs false
set_option maxRecDepth 100000
set_option maxHeartbeats 4000000

end Go.Proofs.Ytokngfinnieccaa
namespace Go.Proofs.Ytokngfinnieccaa
open Go.ChangeShapes Go.WideShapes Go.RowKit
set_option linter.unusedVariables false
set_option linter.unusedSimpArgs false
set_option maxRecDepth 100000
set_option maxHeartbeats 4000000

end Go.Proofs.Ytokngfinnieccaa
namespace Go.Proofs.Ytokngfinnieccaa
open Go.ChangeShapes Go.WideShapes Go.RowKit
set_option linter.unusedVariables false
set_option linter.unusedSimpArgs false
set_option maxRecDepth 100000
set_option maxHeartbeats 4000000

/-- a slice that a buildSlice has just made of parts -/
theorem RdP.built (w : World) (cs : Array Value) (l : List Pt) (n : Nat) (hn : n = l.length) (hc : cs.toList = pc l) (hm : n ≤ maxLen) (ht : ∀ p ∈ l, p.2.2.size ≤ 140737488351232) :
    RdP (w.alloc (.cells cs 88)) (w.heap.size + 1) (some ⟨w.heap.size, 0, none⟩) n n l := by
  refine ⟨hn, ?_, ht⟩
  rw [← hc]
  exact Rd.built w _ cs (by have := congrArg List.length hc; simp only [Array.length_toList, pc_len] at this; omega) hm
end Go.Proofs.Ytokngfinnieccaa
namespace Go.Proofs.Ytokngfinnieccaa
open Go.ChangeShapes Go.WideShapes Go.RowKit
set_option linter.unusedVariables false
set_option linter.unusedSimpArgs false
set_option maxRecDepth 100000
set_option maxHeartbeats 4000000

end Go.Proofs.Ytokngfinnieccaa
namespace Go.Proofs.Ytokngfinnieccaa
open Go.ChangeShapes Go.WideShapes Go.RowKit
set_option linter.unusedVariables false
set_option linter.unusedSimpArgs false
set_option maxRecDepth 100000
set_option maxHeartbeats 4000000

end Go.Proofs.Ytokngfinnieccaa
namespace Go.Proofs.Ytokngfinnieccaa
open Go.ChangeShapes Go.WideShapes Go.RowKit
set_option linter.unusedVariables false
set_option linter.unusedSimpArgs false
set_option maxRecDepth 100000
set_option maxHeartbeats 4000000

/-- append of a slice of parts to a row of the call's own -/
theorem wpList_app_partsC {ops : Array Oper} {rest : List Oper} {o : Oper} {a : Act} {Q : Exit → Act → World → Prop} (w : World) (hgd : o.guard = none) (s x : Operand)
    (ho : o.op = .call { callee := .builtin .append, args := #[s, x], argTypes := #[25, 25] })
    (B : Nat) (v : Value) (l : List Pt) (hs : a.eval s = v) (hown : OwnP w B v l)
    (A : Option Addr) (m c B' : Nat) (l' : List Pt) (hx : a.eval x = .slice A m c) (hr : RdP w B' A m c l')
    (hn : l.length + m ≤ 4000000) (hB : B ≤ w.heap.size)
    (h : ∀ v' w', OwnP w' B v' (l ++ l') → Below B w w' → wpList Try.prog ops Q rest (a.put o.dst v') w') :
    wpList Try.prog ops Q (o :: rest) a w := by
  obtain ⟨i0, hi, hz0, hz1, hz2⟩ := info_parts Try.info_part
  refine wpList_append_any w hgd s x 25 ho B 88 i0 _ 3 32 Try.underlying25 hi hz0 hz1 hz2 rfl (by omega) v _ _ hs hown B' A m c (pc l') hx ?_ ?_ (by simp only [maxLen]; omega) (by omega) hB ?_
  · refine ⟨by rw [pc_len, hr.1], fun h0 => ?_⟩
    obtain ⟨b, o', e, hb, hc⟩ := hr.2.1.2.2.2 h0
    refine ⟨_, e, hb, fun j u hj => ?_⟩
    have := hc j u hj
    by_cases h00 : j = 0
    · subst h00; simpa [Addr.add] using this
    · simpa [Addr.add, h00] using this
  · intro u hu
    unfold pc at hu
    obtain ⟨p, _, hp⟩ := List.mem_flatMap.1 hu
    simp only [pcells, List.mem_cons, List.not_mem_nil, or_false] at hp
    rcases hp with rfl | rfl | rfl <;> rfl
  · intro v' w' h2 h3 h4
    exact h v' w' (by unfold OwnP; rw [pc_append, List.length_append, ← hr.1]; exact h2) (below_grown h3 hB (own_ge hown))
end Go.Proofs.Ytokngfinnieccaa
namespace Go.Proofs.Ytokngfinnieccaa
open Go.ChangeShapes Go.WideShapes Go.RowKit
set_option linter.unusedVariables false
set_option linter.unusedSimpArgs false
set_option maxRecDepth 100000
set_option maxHeartbeats 4000000

end Go.Proofs.Ytokngfinnieccaa
namespace Go.Proofs.Ytokngfinnieccaa
open Go.ChangeShapes Go.WideShapes Go.RowKit
set_option linter.unusedVariables false
set_option linter.unusedSimpArgs false
set_option maxRecDepth 100000
set_option maxHeartbeats 4000000

section
variable {w w' : World} {B B' g used : Nat} {l : List Pt} {S : Nat → Prop}
end
end Go.Proofs.Ytokngfinnieccaa
namespace Go.Proofs.Ytokngfinnieccaa
set_option linter.unusedVariables false
set_option linter.unusedSimpArgs false

theorem cu_nat (n : Nat) : cu (n : Int) = List.replicate n (some none) := by simp [cu]
theorem pu_len (s : ByteArray) : (pu s).length = s.size := by simp [pu]
section
variable {told ys xs X : List U} {r rx ry : List Pt} {N M : Int} {t s : ByteArray} {u v n : Nat}
end
end Go.Proofs.Ytokngfinnieccaa
namespace Go.Proofs.Ytokngfinnieccaa
open Go.ChangeShapes Go.WideShapes Go.RowKit
set_option linter.unusedVariables false
set_option linter.unusedSimpArgs false
set_option maxRecDepth 100000
set_option maxHeartbeats 4000000

section
variable {w0 w w' : World} {B gm gx gy ux uy ux' uy' : Nat} {ob ob' : Option Nat} {told told' : List U} {lx ly lx' ly' : List Pt}
end
/-- how far a walker still has to go -/
def far (w : World) (g : Nat) : Nat := match w.cell? ⟨g, 0, none⟩, w.cell? ⟨g, 1, none⟩ with
  | some (.slice _ n _), some (.int _ u) => n * 501 - u.toNat
  | _, _ => 0
end Go.Proofs.Ytokngfinnieccaa
namespace Go.Proofs.Ytokngfinnieccaa
open Go.ChangeShapes Go.WideShapes Go.RowKit
set_option linter.unusedVariables false
set_option linter.unusedSimpArgs false
set_option maxRecDepth 100000
set_option maxHeartbeats 4000000

def ic (l : List Int) : List Value := l.map (Value.int .i64)
theorem ic_at (l : List Int) (k : Nat) (h : k < l.length) : (ic l)[k]? = some (.int .i64 l[k]) := by simp [ic, h]
theorem ic_len (l : List Int) : (ic l).length = l.length := by simp [ic]
/-- the slice reads as the list -/
def RdI (w : World) (B : Nat) (A : Option Addr) (n c : Nat) (l : List Int) : Prop := n = l.length ∧ Rd w B 1 A n c (ic l)
theorem RdI.at_ {w : World} {B n c : Nat} {A : Option Addr} {l : List Int} (h : RdI w B A n c l) (k : Nat) (hk : k < n) :
    ∃ b o, A = some ⟨b, o, none⟩ ∧ b < B ∧ w.cell? ⟨b, o + k, none⟩ = some (.int .i64 (l[k]'(by have := h.1; omega))) := by
  obtain ⟨b, o, e, hb, hc⟩ := h.2.2.2.2 (by omega)
  exact ⟨b, o, e, hb, hc k _ (ic_at l k (by have := h.1; omega))⟩
theorem RdI.below {w w' : World} {B n c : Nat} {A : Option Addr} {l : List Int} (h : RdI w B A n c l) (hb : Below B w w') : RdI w' B A n c l := ⟨h.1, h.2.below hb⟩
theorem RdI.more {w : World} {B B' n c : Nat} {A : Option Addr} {l : List Int} (h : RdI w B A n c l) (hB : B ≤ B') : RdI w B' A n c l := ⟨h.1, h.2.more hB⟩
theorem RdI.alloc {w : World} {B n c : Nat} {A : Option Addr} {l : List Int} (h : RdI w B A n c l) (hB : B ≤ w.heap.size) (o : Obj) : RdI (w.alloc o) B A n c l := ⟨h.1, h.2.alloc hB o⟩
/-- a []int of the call's own -/
def OwnI (w : World) (B : Nat) (v : Value) (l : List Int) : Prop := w.ownsRow B 3 1 v l.length (ic l)
theorem Try.info_int : (Try.prog.info? 3).map (fun i => (i.zero, i.size, i.bytes)) = some (some (.int .i64 0), 1, 8) := by kernel_rfl
theorem OwnI.nil (w : World) (B : Nat) : OwnI w B (.slice none 0 0) [] := World.ownsRow_nil _ _ _ _
theorem OwnI.rd {w : World} {B : Nat} {v : Value} {l : List Int} (h : OwnI w B v l) : ∃ A c, v = .slice A l.length c ∧ RdI w w.heap.size A l.length c l := by
  obtain ⟨A, c, e, hr⟩ := Rd.own h
  exact ⟨A, c, e, rfl, hr⟩
theorem own_base {w : World} {base base' : Nat} {e : TypeId} {size n : Nat} {v : Value} {xs : List Value} (h : w.ownsRow base e size v n xs) (hb : base' ≤ base) : w.ownsRow base' e size v n xs := by
  obtain ⟨h1, h2⟩ := h
  refine ⟨h1, ?_⟩
  rcases h2 with h2 | ⟨g, cap, cur, e1, hg, r⟩
  · exact .inl h2
  · exact .inr ⟨g, cap, cur, e1, by omega, r⟩
theorem RdI.built (w : World) (cs : Array Value) (l : List Int) (n : Nat) (hn : n = l.length) (hc : cs.toList = ic l) (hm : n ≤ maxLen) :
    RdI (w.alloc (.cells cs 3)) (w.heap.size + 1) (some ⟨w.heap.size, 0, none⟩) n n l := by
  refine ⟨hn, ?_⟩
  rw [← hc]
  exact Rd.built w _ cs (by have := congrArg List.length hc; simp only [Array.length_toList, ic_len] at this; omega) hm
theorem wpList_app_int {ops : Array Oper} {rest : List Oper} {o : Oper} {a : Act} {Q : Exit → Act → World → Prop} (w : World) (hgd : o.guard = none) (s x : Operand)
    (ho : o.op = .call { callee := .builtin .append, args := #[s, x], argTypes := #[33, 33] })
    (B : Nat) (v : Value) (l : List Int) (hs : a.eval s = v) (hown : OwnI w B v l)
    (u : Int) (c : Nat) (hx : a.eval x = .slice (some ⟨w.heap.size, 0, none⟩) 1 c)
    (hn : l.length ≤ 100000000) (hB : B ≤ w.heap.size)
    (h : ∀ v' w', OwnI w' B v' (l ++ [u]) → Below B w w' → w.grownBy w' v.ownBlock → (v'.ownBlock = v.ownBlock ∨ v'.ownBlock = some (w.heap.size + 1)) → wpList Try.prog ops Q rest (a.put o.dst v') w') :
    wpList Try.prog ops Q (o :: rest) a (w.alloc (.cells #[.int .i64 u] 3)) := by
  obtain ⟨i0, hi, hz0, hz1, hz2⟩ := info_parts Try.info_int
  refine wpList_app1 w hgd s x 33 ho B 3 i0 _ 1 8 Try.underlying33 hi hz0 hz1 hz2 rfl (by omega) (by omega) v _ _ hs hown _ c hx rfl (by simp [Value.oneCell']) hn hB ?_
  intro v' w' h1 h2 h3 h4
  exact h v' w' (by simpa [OwnI, ic] using h1) h2 h3 h4

end Go.Proofs.Ytokngfinnieccaa
namespace Go.Proofs.Ytokngfinnieccaa
set_option linter.unusedVariables false
set_option linter.unusedSimpArgs false

section
variable {p q ys xs P Q : List U} {r rx ry : List Pt} {N M : Int} {t s : ByteArray} {u v n : Nat}
end
end Go.Proofs.Ytokngfinnieccaa
namespace Go.Proofs.Ytokngfinnieccaa
open Go.ChangeShapes Go.WideShapes Go.RowKit
set_option linter.unusedVariables false
set_option linter.unusedSimpArgs false
set_option maxRecDepth 100000
set_option maxHeartbeats 4000000

section
variable {w0 w w' : World} {B gp gq gx gy ux uy ux' uy' : Nat} {op oq ob' : Option Nat} {p q told' : List U} {lx ly lx' ly' : List Pt}
end
end Go.Proofs.Ytokngfinnieccaa
namespace Go.Proofs.Ytokngfinnieccaa
open Go.ChangeShapes Go.WideShapes Go.RowKit
set_option linter.unusedVariables false
set_option linter.unusedSimpArgs false
set_option maxRecDepth 100000
set_option maxHeartbeats 4000000

theorem own_ne_ {w : World} {B B' : Nat} {e e' : TypeId} {size size' n n' : Nat} {v v' : Value} {xs xs' : List Value} (h : w.ownsRow B e size v n xs) (h' : w.ownsRow B' e' size' v' n' xs') (hne : e ≠ e') : v.ownBlock = none ∨ v.ownBlock ≠ v'.ownBlock := by
  rcases h.2 with ⟨rfl, _⟩ | ⟨g, cap, cur, rfl, _, hg, _⟩
  · exact .inl rfl
  · rcases h'.2 with ⟨rfl, _⟩ | ⟨g', cap', cur', rfl, _, hg', _⟩
    · exact .inr (by simp [Value.ownBlock])
    · refine .inr fun he => ?_
      simp only [Value.ownBlock, Option.some.injEq] at he
      subst he
      rw [hg] at hg'
      injection hg' with hg'
      injection hg' with _ h2
      exact hne h2
end Go.Proofs.Ytokngfinnieccaa
namespace Go.Proofs.Ytokngfinnieccaa
open Go.ChangeShapes Go.WideShapes Go.RowKit
set_option linter.unusedVariables false
set_option linter.unusedSimpArgs false
set_option maxRecDepth 100000
set_option maxHeartbeats 4000000

theorem rdSx {w : World} {B : Nat} {A : Option Addr} {n c : Nat} {l : List Pt} (h : OwnP w B (.slice A n c) l) (ht : ∀ p ∈ l, p.2.2.size ≤ 140737488351232) : RdP w w.heap.size A n c l := by
  obtain ⟨A', c', e, hr⟩ := h.rd ht
  injection e with e1 e2 e3
  subst e1; subst e2; subst e3
  exact hr
theorem rev_info : (Try.prog.info? 30).map (·.size) = some 3 := by kernel_rfl
theorem rev_row {W : World} {g : Nat} {cs : Array Value} (h : Blk W g 30 cs) (hs : cs.size = 3) : (loadVar 30 ⟨g, 0, none⟩).run Try.prog W = .ok (.agg cs) W :=
  run_loadVar_row (P := Try.prog) W g 30 30 _ _ _ h Try.underlying30 rfl (by rw [hs]; exact rev_info)
end Go.Proofs.Ytokngfinnieccaa
namespace Go.Proofs.Ytokngfinnieccaa
open Go.ChangeShapes Go.WideShapes Go.RowKit
set_option linter.unusedVariables false
set_option linter.unusedSimpArgs false
set_option maxRecDepth 100000
set_option maxHeartbeats 4000000

/-- may a revision come behind a log whose text is so long by now? -/
def nextE (l : Lg) (size : Nat) (r : Rv) : Int :=
  if oneE r ≠ 0 then oneE r else if r.2.1 ≤ (l.table.getD r.1.toNat (0, 0)).1 then 10
  else if 64 ≤ l.revs.length ∨ 2147483647 ≤ l.base + l.revs.length then 11 else fitsE r.2.2 size
theorem next_one (l : Lg) (sl : Sl) (h8 : Lg8 l) (hsl : sl.2.1 = l.revs.length) (hb0 : 0 ≤ l.base) (hb1 : l.base ≤ 2147483647) (hrl : l.revs.length ≤ 1000) (size : Nat) (b : Int) (d : List Pt) (A : Option Addr) (n c : Nat) (w : World) (hd : RdP w w.heap.size A n c d) (a : Int) (hne : oneE (a, b, d) ≠ 0) :
    Calls Try.prog 85 #[.agg (lgc l sl), .int .i64 size, .agg #[.int .i64 a, .int .i64 b, .slice A n c]] w fun e w' => e = .returned (.int .i64 (oneE (a, b, d))) ∧ Below w.heap.size w w' := by
  obtain ⟨O, hO⟩ : ∃ O, oneE (a, b, d) = O := ⟨_, rfl⟩
  rw [hO] at hne ⊢
  have HO := Lib.hid hO
  have hne2 : (O != 0) = true := by simpa using hne
  clear hO hne
  have Hd := Lib.hid hd
  clear hd
  have hb0 : Below w.heap.size w w := Below.refl _ _
  have hb1 := hb0.alloc hb0.size (.cells (lgc l sl) 131)
  have kl := Blk.new w 131 (lgc l sl)
  have hb2 := hb1.alloc hb1.size (.cells #[.int .i64 a, .int .i64 b, .slice A n c] 30)
  replace kl := kl.alloc (.cells #[.int .i64 a, .int .i64 b, .slice A n c] 30)
  have kr := Blk.new (w.alloc (.cells (lgc l sl) 131)) 30 #[.int .i64 a, .int .i64 b, .slice A n c]
  clear hb0 hb1
  have hb := hb2
  clear hb2
  simp only [World.size_alloc] at kl kr
  go_enter Try.func85, Try.ntmps85
  go_upto_region 1 with (fail)
  generalize ((w.alloc (.cells (lgc l sl) 131)).alloc (.cells #[.int .i64 a, .int .i64 b, .slice A n c] 30)) = W0 at *
  obtain ⟨g, hbase⟩ : ∃ g, w.heap.size = g := ⟨_, rfl⟩
  rw [hbase] at hb kl kr ⊢
  have hsz : g ≤ W0.heap.size := by have := hb.size; omega
  have ll := kl.lt
  have lr := kr.lt
  have Hd := Lib.hid (hbase ▸ Hd.out)
  go_wp2_with (first | (refine wpList_load_blk rfl _ (.tmp 5) rfl (g + 1) rfl _ (rev_row kr rfl) ?_))
  refine (one_any a b d A n c _ O W0 ((Hd.out.below hb).more hsz) (Nat.le_refl _) HO.out).mono ?_
  rintro e v1 ⟨rfl, hv1⟩
  replace kl := kl.below hv1 kl.lt
  replace ll := kl.lt
  replace kr := kr.below hv1 kr.lt
  replace lr := kr.lt
  replace hb := hb.trans (hv1.mono hsz)
  replace hsz : g ≤ v1.heap.size := Nat.le_trans hsz hv1.size
  clear hv1
  go_wp2_with fail
  go_ret
  exact ⟨rfl, hbase ▸ hb⟩
theorem next_seq (l : Lg) (sl : Sl) (h8 : Lg8 l) (hsl : sl.2.1 = l.revs.length) (hb0 : 0 ≤ l.base) (hb1 : l.base ≤ 2147483647) (hrl : l.revs.length ≤ 1000) (size : Nat) (b : Int) (d : List Pt) (A : Option Addr) (n c : Nat) (w : World) (hd : RdP w w.heap.size A n c d) (k : Nat) (hk : k < 8) (ho : oneE ((k : Int), b, d) = 0) (T : Int) (hT : (l.table[k]'(by have := h8.2; omega)).1 = T) (h1 : b ≤ T) :
    Calls Try.prog 85 #[.agg (lgc l sl), .int .i64 size, .agg #[.int .i64 k, .int .i64 b, .slice A n c]] w fun e w' => e = .returned (.int .i64 10) ∧ Below w.heap.size w w' := by
  have HO := Lib.hid ho
  have HT := Lib.hid hT
  clear ho hT
  obtain ⟨m, hm⟩ : ∃ m, l.revs.length = m := ⟨_, rfl⟩
  rw [hm] at hsl hrl
  obtain ⟨Bs, hBs⟩ : ∃ Bs, l.base = Bs := ⟨_, rfl⟩
  rw [hBs] at hb0 hb1
  have Hm := Lib.hid hsl
  have HB := Lib.hid hBs
  clear hm hsl hBs
  have Hd := Lib.hid hd
  clear hd
  have hb0 : Below w.heap.size w w := Below.refl _ _
  have hb1 := hb0.alloc hb0.size (.cells (lgc l sl) 131)
  have kl := Blk.new w 131 (lgc l sl)
  have hb2 := hb1.alloc hb1.size (.cells #[.int .i64 k, .int .i64 b, .slice A n c] 30)
  replace kl := kl.alloc (.cells #[.int .i64 k, .int .i64 b, .slice A n c] 30)
  have kr := Blk.new (w.alloc (.cells (lgc l sl) 131)) 30 #[.int .i64 k, .int .i64 b, .slice A n c]
  clear hb0 hb1
  have hb := hb2
  clear hb2
  simp only [World.size_alloc] at kl kr
  go_enter Try.func85, Try.ntmps85
  go_upto_region 1 with (fail)
  generalize ((w.alloc (.cells (lgc l sl) 131)).alloc (.cells #[.int .i64 k, .int .i64 b, .slice A n c] 30)) = W0 at *
  obtain ⟨g, hbase⟩ : ∃ g, w.heap.size = g := ⟨_, rfl⟩
  rw [hbase] at hb kl kr ⊢
  have hsz : g ≤ W0.heap.size := by have := hb.size; omega
  have ll := kl.lt
  have lr := kr.lt
  have Hd := Lib.hid (hbase ▸ Hd.out)
  go_wp2_with (first | (refine wpList_load_blk rfl _ (.tmp 5) rfl (g + 1) rfl _ (rev_row kr rfl) ?_))
  refine (one_any k b d A n c _ 0 W0 ((Hd.out.below hb).more hsz) (Nat.le_refl _) HO.out).mono ?_
  rintro e v1 ⟨rfl, hv1⟩
  replace kl := kl.below hv1 kl.lt
  replace ll := kl.lt
  replace kr := kr.below hv1 kr.lt
  replace lr := kr.lt
  replace hb := hb.trans (hv1.mono hsz)
  replace hsz : g ≤ v1.heap.size := Nat.le_trans hsz hv1.size
  clear hv1
  have a1 := (lgc_table (s := sl) h8 k hk).1
  rw [HT.out] at a1
  have b1 := kl.cell (19 + k * 2)
  rw [a1] at b1
  clear a1
  have hk0 : (0 : Int) ≤ (k : Int) := by omega
  have hk8 : (k : Int) < 8 := by omega
  have cr_0 := kr.cell 0
  have cr_1 := kr.cell 1
  go_upto_region 4 with (fail)
  go_quiet (fail)
  clear b1 cr_0 cr_1
  replace kl := kl.drewN nq
  replace kr := kr.drewN nq
  replace hb := below_drewN_ hb nq
  have hsz2 : g ≤ (v1.drewN nq).heap.size := hsz
  obtain ⟨wn, hU_⟩ : ∃ U_, v1.drewN nq = U_ := ⟨_, rfl⟩
  rw [hU_] at kl kr hb hsz2 ⊢
  clear hU_ hsz
  have hsz := hsz2
  clear hsz2
  replace ll := kl.lt
  replace lr := kr.lt
  go_wp2_with fail
  go_ret
  exact ⟨rfl, hbase ▸ hb⟩
theorem next_full (l : Lg) (sl : Sl) (h8 : Lg8 l) (hsl : sl.2.1 = l.revs.length) (hb0 : 0 ≤ l.base) (hb1 : l.base ≤ 2147483647) (hrl : l.revs.length ≤ 1000) (size : Nat) (b : Int) (d : List Pt) (A : Option Addr) (n c : Nat) (w : World) (hd : RdP w w.heap.size A n c d) (k : Nat) (hk : k < 8) (ho : oneE ((k : Int), b, d) = 0) (T : Int) (hT : (l.table[k]'(by have := h8.2; omega)).1 = T) (h1 : T < b) (h2 : 64 ≤ l.revs.length ∨ 2147483647 ≤ l.base + l.revs.length) :
    Calls Try.prog 85 #[.agg (lgc l sl), .int .i64 size, .agg #[.int .i64 k, .int .i64 b, .slice A n c]] w fun e w' => e = .returned (.int .i64 11) ∧ Below w.heap.size w w' := by
  have HO := Lib.hid ho
  have HT := Lib.hid hT
  clear ho hT
  obtain ⟨m, hm⟩ : ∃ m, l.revs.length = m := ⟨_, rfl⟩
  rw [hm] at hsl hrl h2
  obtain ⟨Bs, hBs⟩ : ∃ Bs, l.base = Bs := ⟨_, rfl⟩
  rw [hBs] at hb0 hb1 h2
  have Hm := Lib.hid hsl
  have HB := Lib.hid hBs
  clear hm hsl hBs
  have Hd := Lib.hid hd
  clear hd
  have hb0 : Below w.heap.size w w := Below.refl _ _
  have hb1 := hb0.alloc hb0.size (.cells (lgc l sl) 131)
  have kl := Blk.new w 131 (lgc l sl)
  have hb2 := hb1.alloc hb1.size (.cells #[.int .i64 k, .int .i64 b, .slice A n c] 30)
  replace kl := kl.alloc (.cells #[.int .i64 k, .int .i64 b, .slice A n c] 30)
  have kr := Blk.new (w.alloc (.cells (lgc l sl) 131)) 30 #[.int .i64 k, .int .i64 b, .slice A n c]
  clear hb0 hb1
  have hb := hb2
  clear hb2
  simp only [World.size_alloc] at kl kr
  go_enter Try.func85, Try.ntmps85
  go_upto_region 1 with (fail)
  generalize ((w.alloc (.cells (lgc l sl) 131)).alloc (.cells #[.int .i64 k, .int .i64 b, .slice A n c] 30)) = W0 at *
  obtain ⟨g, hbase⟩ : ∃ g, w.heap.size = g := ⟨_, rfl⟩
  rw [hbase] at hb kl kr ⊢
  have hsz : g ≤ W0.heap.size := by have := hb.size; omega
  have ll := kl.lt
  have lr := kr.lt
  have Hd := Lib.hid (hbase ▸ Hd.out)
  go_wp2_with (first | (refine wpList_load_blk rfl _ (.tmp 5) rfl (g + 1) rfl _ (rev_row kr rfl) ?_))
  refine (one_any k b d A n c _ 0 W0 ((Hd.out.below hb).more hsz) (Nat.le_refl _) HO.out).mono ?_
  rintro e v1 ⟨rfl, hv1⟩
  replace kl := kl.below hv1 kl.lt
  replace ll := kl.lt
  replace kr := kr.below hv1 kr.lt
  replace lr := kr.lt
  replace hb := hb.trans (hv1.mono hsz)
  replace hsz : g ≤ v1.heap.size := Nat.le_trans hsz hv1.size
  clear hv1
  have a1 := (lgc_table (s := sl) h8 k hk).1
  rw [HT.out] at a1
  have b1 := kl.cell (19 + k * 2)
  rw [a1] at b1
  clear a1
  have hk0 : (0 : Int) ≤ (k : Int) := by omega
  have hk8 : (k : Int) < 8 := by omega
  have cr_0 := kr.cell 0
  have cr_1 := kr.cell 1
  go_upto_region 4 with (fail)
  go_quiet (fail)
  clear b1 cr_0 cr_1
  replace kl := kl.drewN nq
  replace kr := kr.drewN nq
  replace hb := below_drewN_ hb nq
  have hsz2 : g ≤ (v1.drewN nq).heap.size := hsz
  obtain ⟨wn, hU_⟩ : ∃ U_, v1.drewN nq = U_ := ⟨_, rfl⟩
  rw [hU_] at kl kr hb hsz2 ⊢
  clear hU_ hsz
  have hsz := hsz2
  clear hsz2
  replace ll := kl.lt
  replace lr := kr.lt
  have q1 := kl.cell 1
  have q2 := kl.cell 35
  rw [lgc_base] at q1
  rw [lgc_revs h8] at q2
  have hsm := Hm.out
  have hbs := HB.out
  rcases h2 with h2 | h2
  · skip
    go_wp2_with fail
    go_ret
    exact ⟨rfl, hbase ▸ hb⟩
  · by_cases h9 : 64 ≤ m
    · go_wp2_with fail
      go_ret
      exact ⟨rfl, hbase ▸ hb⟩
    · go_wp2_with fail
      go_ret
      exact ⟨rfl, hbase ▸ hb⟩
theorem next_fits (l : Lg) (sl : Sl) (h8 : Lg8 l) (hsl : sl.2.1 = l.revs.length) (hb0 : 0 ≤ l.base) (hb1 : l.base ≤ 2147483647) (hrl : l.revs.length ≤ 1000) (size : Nat) (b : Int) (d : List Pt) (A : Option Addr) (n c : Nat) (w : World) (hd : RdP w w.heap.size A n c d) (k : Nat) (hk : k < 8) (ho : oneE ((k : Int), b, d) = 0) (T : Int) (hT : (l.table[k]'(by have := h8.2; omega)).1 = T) (h1 : T < b) (h2 : l.revs.length < 64) (h3 : l.base + l.revs.length < 2147483647) :
    Calls Try.prog 85 #[.agg (lgc l sl), .int .i64 size, .agg #[.int .i64 k, .int .i64 b, .slice A n c]] w fun e w' => e = .returned (.int .i64 (fitsE d size)) ∧ Below w.heap.size w w' := by
  have HO := Lib.hid ho
  have HT := Lib.hid hT
  clear ho hT
  obtain ⟨m, hm⟩ : ∃ m, l.revs.length = m := ⟨_, rfl⟩
  rw [hm] at hsl hrl h2 h3
  obtain ⟨Bs, hBs⟩ : ∃ Bs, l.base = Bs := ⟨_, rfl⟩
  rw [hBs] at hb0 hb1 h3
  have Hm := Lib.hid hsl
  have HB := Lib.hid hBs
  clear hm hsl hBs
  have Hd := Lib.hid hd
  clear hd
  have hb0 : Below w.heap.size w w := Below.refl _ _
  have hb1 := hb0.alloc hb0.size (.cells (lgc l sl) 131)
  have kl := Blk.new w 131 (lgc l sl)
  have hb2 := hb1.alloc hb1.size (.cells #[.int .i64 k, .int .i64 b, .slice A n c] 30)
  replace kl := kl.alloc (.cells #[.int .i64 k, .int .i64 b, .slice A n c] 30)
  have kr := Blk.new (w.alloc (.cells (lgc l sl) 131)) 30 #[.int .i64 k, .int .i64 b, .slice A n c]
  clear hb0 hb1
  have hb := hb2
  clear hb2
  simp only [World.size_alloc] at kl kr
  go_enter Try.func85, Try.ntmps85
  go_upto_region 1 with (fail)
  generalize ((w.alloc (.cells (lgc l sl) 131)).alloc (.cells #[.int .i64 k, .int .i64 b, .slice A n c] 30)) = W0 at *
  obtain ⟨g, hbase⟩ : ∃ g, w.heap.size = g := ⟨_, rfl⟩
  rw [hbase] at hb kl kr ⊢
  have hsz : g ≤ W0.heap.size := by have := hb.size; omega
  have ll := kl.lt
  have lr := kr.lt
  have Hd := Lib.hid (hbase ▸ Hd.out)
  go_wp2_with (first | (refine wpList_load_blk rfl _ (.tmp 5) rfl (g + 1) rfl _ (rev_row kr rfl) ?_))
  refine (one_any k b d A n c _ 0 W0 ((Hd.out.below hb).more hsz) (Nat.le_refl _) HO.out).mono ?_
  rintro e v1 ⟨rfl, hv1⟩
  replace kl := kl.below hv1 kl.lt
  replace ll := kl.lt
  replace kr := kr.below hv1 kr.lt
  replace lr := kr.lt
  replace hb := hb.trans (hv1.mono hsz)
  replace hsz : g ≤ v1.heap.size := Nat.le_trans hsz hv1.size
  clear hv1
  have a1 := (lgc_table (s := sl) h8 k hk).1
  rw [HT.out] at a1
  have b1 := kl.cell (19 + k * 2)
  rw [a1] at b1
  clear a1
  have hk0 : (0 : Int) ≤ (k : Int) := by omega
  have hk8 : (k : Int) < 8 := by omega
  have cr_0 := kr.cell 0
  have cr_1 := kr.cell 1
  go_upto_region 4 with (fail)
  go_quiet (fail)
  clear b1 cr_0 cr_1
  replace kl := kl.drewN nq
  replace kr := kr.drewN nq
  replace hb := below_drewN_ hb nq
  have hsz2 : g ≤ (v1.drewN nq).heap.size := hsz
  obtain ⟨wn, hU_⟩ : ∃ U_, v1.drewN nq = U_ := ⟨_, rfl⟩
  rw [hU_] at kl kr hb hsz2 ⊢
  clear hU_ hsz
  have hsz := hsz2
  clear hsz2
  replace ll := kl.lt
  replace lr := kr.lt
  have q1 := kl.cell 1
  have q2 := kl.cell 35
  rw [lgc_base] at q1
  rw [lgc_revs h8] at q2
  have hsm := Hm.out
  have hbs := HB.out
  go_upto_region 8 with (fail)
  clear q1 q2
  have cr_2 := kr.cell 2
  go_wp2_with fail
  clear cr_2
  refine (fits_any d A n c g size wn (Hd.out.below hb) hsz).mono ?_
  rintro e v2 ⟨rfl, hv2⟩
  replace kl := kl.below hv2 kl.lt
  replace ll := kl.lt
  replace kr := kr.below hv2 kr.lt
  replace lr := kr.lt
  replace hb := hb.trans (hv2.mono hsz)
  replace hsz : g ≤ v2.heap.size := Nat.le_trans hsz hv2.size
  clear hv2
  go_wp2_with fail
  go_ret
  exact ⟨rfl, hbase ▸ hb⟩
theorem next_any (l : Lg) (sl : Sl) (h8 : Lg8 l) (hsl : sl.2.1 = l.revs.length) (hb0 : 0 ≤ l.base) (hb1 : l.base ≤ 2147483647) (hrl : l.revs.length ≤ 1000) (size : Nat) (r : Rv) (A : Option Addr) (n c : Nat) (w : World) (hd : RdP w w.heap.size A n c r.2.2) :
    Calls Try.prog 85 #[.agg (lgc l sl), .int .i64 size, .agg #[.int .i64 r.1, .int .i64 r.2.1, .slice A n c]] w fun e w' => e = .returned (.int .i64 (nextE l size r)) ∧ Below w.heap.size w w' := by
  obtain ⟨a, b, d⟩ := r
  simp only at hd ⊢
  by_cases ho : oneE (a, b, d) = 0
  · have hw : 0 ≤ a ∧ a ≤ 7 := by
      unfold oneE at ho
      split at ho
      · exact absurd ho (by decide)
      · simp only at *; omega
    obtain ⟨k, rfl⟩ := Int.eq_ofNat_of_zero_le hw.1
    have hk : k < 8 := by omega
    have hT : l.table.getD k (0, 0) = l.table[k]'(by have := h8.2; omega) := by rw [List.getD_eq_getElem?_getD, List.getElem?_eq_getElem (by have := h8.2; omega)]; rfl
    have hE : nextE l size ((k : Int), b, d) = if b ≤ (l.table[k]'(by have := h8.2; omega)).1 then 10 else if 64 ≤ l.revs.length ∨ 2147483647 ≤ l.base + l.revs.length then 11 else fitsE d size := by
      unfold nextE
      rw [if_neg (by simpa using ho)]
      simp only [Int.toNat_natCast]
      rw [hT]
    rw [hE]
    by_cases h1 : b ≤ (l.table[k]'(by have := h8.2; omega)).1
    · rw [if_pos h1]
      exact next_seq l sl h8 hsl hb0 hb1 hrl size b d A n c w hd k hk ho _ rfl h1
    · rw [if_neg h1]
      by_cases h2 : 64 ≤ l.revs.length ∨ 2147483647 ≤ l.base + l.revs.length
      · rw [if_pos h2]
        exact next_full l sl h8 hsl hb0 hb1 hrl size b d A n c w hd k hk ho _ rfl (by omega) h2
      · rw [if_neg h2]
        exact next_fits l sl h8 hsl hb0 hb1 hrl size b d A n c w hd k hk ho _ rfl (by omega) (by omega) (by omega)
  · have hE : nextE l size (a, b, d) = oneE (a, b, d) := by unfold nextE; rw [if_pos ho]
    rw [hE]
    exact next_one l sl h8 hsl hb0 hb1 hrl size b d A n c w hd a ho
end Go.Proofs.Ytokngfinnieccaa
namespace Go.Proofs.Ytokngfinnieccaa
open Go.ChangeShapes Go.WideShapes Go.RowKit
set_option linter.unusedVariables false
set_option linter.unusedSimpArgs false
set_option maxRecDepth 100000
set_option maxHeartbeats 4000000

end Go.Proofs.Ytokngfinnieccaa
namespace Go.Proofs.Ytokngfinnieccaa
open Go.ChangeShapes Go.WideShapes Go.RowKit
set_option linter.unusedVariables false
set_option linter.unusedSimpArgs false
set_option maxRecDepth 100000
set_option maxHeartbeats 4000000

theorem Try.info_rev : (Try.prog.info? 30).map (fun i => (i.zero, i.size, i.bytes)) = some (some (.agg #[.int .i64 0, .int .i64 0, .slice none 0 0]), 3, 40) := by kernel_rfl
theorem rc_append : ∀ (l l' : List Rv) (ss ss' : List Sl), ss.length = l.length → rc (l ++ l') (ss ++ ss') = rc l ss ++ rc l' ss'
  | [], l', [], ss', _ => rfl
  | [], l', _ :: _, ss', h => by simp at h
  | _ :: _, l', [], ss', h => by simp at h
  | r :: l, l', s :: ss, ss', h => by
    simp only [List.cons_append, rc]
    rw [rc_append l l' ss ss' (by simpa using h), List.append_assoc]
end Go.Proofs.Ytokngfinnieccaa
