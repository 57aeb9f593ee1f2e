/- A history of the call's own: its row, and its deltas. Contract of hot.Add. Contracts of crc.table and crc.Of. A []byte that a conversion from a string has made (its row bears a mark behind its end): read, written, made a string again. Contracts of frame.four, frame.Put, frame.Get. The check sum, plainly: bit by bit, linear, and what is turned within 32 bits is told. Frames, plainly: what is put is got, whatever stands behind; cut short it is told; what is got is put as it was; what is turned within 32 bits behind the length is told. Arguments opened; what the bound on the bulk gives. Slices of parts, opened. Rows of frames; frame.Scan. Contract of frame.Scan, and of frame.Put for any frame. What hot.Read makes of a slot's frames (pure). What is read of a slot that is cut (pure). Contract of hot.Done. Contract of hot.nums. -/
import Derived.Test.YtokngfinnieccaaW6
import Derived.IntWalk
import Derived.Test.YtokngfinnieccaaW1
import Derived.Laws.Tables
import Derived.Laws.CopyOwn
import Derived.Lib.SmallJoins
import Derived.Test.YtokngfinnieccaaW3
import Derived.Deep.Slices
import Derived.Deep.Fields
import Derived.ChangeSame
namespace Go.Proofs.Ytokngfinnieccaa
open Go.ChangeShapes Go.WideShapes Go.RowKit
set_option linter.unusedVariables false
set_option linter.unusedSimpArgs false
set_option maxRecDepth 100000
set_option maxHeartbeats 4000000

/-- a history of the call's own, its deltas of the call's own too -/
structure OwnV (w : World) (B : Nat) (v : Value) (ss : List Sl) (l : List Rv) : Prop where
  len : ss.length = l.length
  row : w.ownsRow B 30 3 v l.length (rc l ss)
  ds : ∀ k (h : k < l.length), OwnP w B (.slice (ss[k]'(by omega)).1 (ss[k]'(by omega)).2.1 (ss[k]'(by omega)).2.2) l[k].2.2 ∧ (∀ p ∈ l[k].2.2, p.2.2.size ≤ 140737488351232)
theorem OwnV.nil (w : World) (B : Nat) : OwnV w B (.slice none 0 0) [] [] := ⟨rfl, World.ownsRow_nil _ _ _ _, fun k h => absurd h (by simp)⟩
theorem OwnV.below {w w' : World} {B : Nat} {v : Value} {ss : List Sl} {l : List Rv} (h : OwnV w B v ss l) (hb : Below w.heap.size w w') : OwnV w' B v ss l :=
  ⟨h.len, own_below h.row hb, fun k hk => ⟨own_below (h.ds k hk).1 hb, (h.ds k hk).2⟩⟩
/-- stores to boxes of other types, and to what lies elsewhere -/
theorem OwnV.only {w w' : World} {B : Nat} {v : Value} {ss : List Sl} {l : List Rv} {S : Nat → Prop} (h : OwnV w B v ss l) (ho : Only w w' S)
    (hr : ∀ k, v.ownBlock = some k → ¬ S k) (hd : ∀ j (hj : j < l.length) k, (Value.slice (ss[j]'(by have := h.len; omega)).1 (ss[j]'(by have := h.len; omega)).2.1 (ss[j]'(by have := h.len; omega)).2.2).ownBlock = some k → ¬ S k) : OwnV w' B v ss l :=
  ⟨h.len, own_only h.row ho hr, fun k hk => ⟨own_only (h.ds k hk).1 ho (hd k hk), (h.ds k hk).2⟩⟩
/-- a store to one box of another type -/
theorem OwnV.box {w w' : World} {B g : Nat} {v : Value} {ss : List Sl} {l : List Rv} {t : TypeId} {cs : Array Value} (h : OwnV w B v ss l) (hg : Blk w g t cs) (h1 : 30 ≠ t) (h2 : 88 ≠ t) (ho : Only w w' (fun k => k = g)) : OwnV w' B v ss l :=
  h.only ho (fun k hk e => by subst e; exact own_blk_ne h.row hg h1 hk) (fun j hj k hk e => by subst e; exact own_blk_ne (h.ds j hj).1 hg h2 hk)
theorem OwnV.alloc {w : World} {B : Nat} {v : Value} {ss : List Sl} {l : List Rv} (h : OwnV w B v ss l) (o : Obj) : OwnV (w.alloc o) B v ss l := h.below ((Below.refl w.heap.size w).alloc (Nat.le_refl _) o)
theorem OwnV.form {w : World} {B : Nat} {v : Value} {ss : List Sl} {l : List Rv} (h : OwnV w B v ss l) : ∃ A c, v = .slice A l.length c := by
  rcases h.row.2 with ⟨rfl, h0⟩ | ⟨g, cap, cur, rfl, _⟩
  · exact ⟨none, 0, by rw [h0]⟩
  · exact ⟨_, _, rfl⟩
/-- it reads as the history -/
theorem OwnV.rd {w : World} {B n c : Nat} {A : Option Addr} {ss : List Sl} {l : List Rv} (h : OwnV w B (.slice A n c) ss l) : RdR w w.heap.size A n c l := by
  obtain ⟨A', c', e, hr⟩ := Rd.own h.row
  injection e with e1 e2 e3
  subst e1; subst e2; subst e3
  exact ⟨rfl, ss, h.len, hr, fun k hk => rdSx (h.ds k hk).1 (h.ds k hk).2⟩
/-- one revision more -/
theorem OwnV.snoc {w w' : World} {B : Nat} {v v' : Value} {ss : List Sl} {l : List Rv} (h : OwnV w B v ss l) (s : Sl) (r : Rv) (hd : OwnP w B (.slice s.1 s.2.1 s.2.2) r.2.2) (ht : ∀ p ∈ r.2.2, p.2.2.size ≤ 140737488351232)
    (ho : w'.ownsRow B 30 3 v' (l.length + 1) (rc l ss ++ [.int .i64 r.1, .int .i64 r.2.1, .slice s.1 s.2.1 s.2.2])) (hg : w.grownBy w' v.ownBlock) : OwnV w' B v' (ss ++ [s]) (l ++ [r]) := by
  have hk : ∀ (u : Value) (d : List Pt), OwnP w B u d → OwnP w' B u d := fun u d hu => own_kept hu hg (own_ne_ hu h.row (by decide))
  refine ⟨by simp [h.len], ?_, fun k hk' => ?_⟩
  · rw [rc_append l [r] ss [s] h.len, List.length_append]
    exact ho
  · rw [List.length_append, List.length_singleton] at hk'
    by_cases hkl : k < l.length
    · have e1 : (l ++ [r])[k]'(by simp; omega) = l[k] := List.getElem_append_left hkl
      have e2 : (ss ++ [s])[k]'(by simp [h.len]; omega) = ss[k]'(by rw [h.len]; exact hkl) := List.getElem_append_left (by rw [h.len]; exact hkl)
      rw [e1, e2]
      exact ⟨hk _ _ (h.ds k hkl).1, (h.ds k hkl).2⟩
    · obtain rfl : k = l.length := by omega
      have e1 : (l ++ [r])[l.length]'(by simp) = r := by simp
      have e2 : (ss ++ [s])[l.length]'(by simp [h.len]) = s := by simp [← h.len]
      rw [e1, e2]
      exact ⟨hk _ _ hd, ht⟩
/-- append of one revision to a history of the call's own, in a region that draws -/
theorem step_app_rev {ops : Array Oper} {o : Oper} {a : Act} {K : Act → World → Prop} {Q : Exit → Act → World → Prop} {E : Prop} (w : World) (hgd : o.guard = none) (s x : Operand)
    (ho : o.op = .call { callee := .builtin .append, args := #[s, x], argTypes := #[24, 24] })
    (B : Nat) (v : Value) (ss : List Sl) (l : List Rv) (hs : a.eval s = v) (hown : OwnV w B v ss l)
    (r : Rv) (d : Sl) (hd : OwnP w B (.slice d.1 d.2.1 d.2.2) r.2.2) (ht : ∀ p ∈ r.2.2, p.2.2.size ≤ 140737488351232) (c : Nat) (hx : a.eval x = .slice (some ⟨w.heap.size, 0, none⟩) 1 c)
    (hn : l.length ≤ 100000000) (hB : B ≤ w.heap.size)
    (h : ∀ v' w', OwnV w' B v' (ss ++ [d]) (l ++ [r]) → Below B w w' → w.grownBy w' v.ownBlock → (v'.ownBlock = v.ownBlock ∨ v'.ownBlock = some (w.heap.size + 1)) → K (a.put o.dst v') w') :
    if Region.wanted o (yielded ops a.tmps) = true then Oper.wp Try.prog o a (w.alloc (.cells #[.int .i64 r.1, .int .i64 r.2.1, .slice d.1 d.2.1 d.2.2] 30)) K Q else E := by
  obtain ⟨i0, hi, hz0, hz1, hz2⟩ := info_parts Try.info_rev
  refine step_append_any _ hgd s x 24 ho B 30 i0 _ 3 40 Try.underlying24 hi hz0 hz1 hz2 rfl (by omega) v _ _ hs (hown.row.alloc _) (w.heap.size + 1) _ 1 c [.int .i64 r.1, .int .i64 r.2.1, .slice d.1 d.2.1 d.2.2] hx ?_ (by simp [Value.oneCell']) (by simp only [maxLen]; omega) (by omega) (by simp; omega) ?_
  · refine ⟨by simp, fun _ => ⟨_, rfl, by simp, fun j u hj => ?_⟩⟩
    have e1 : (w.alloc (.cells #[.int .i64 r.1, .int .i64 r.2.1, .slice d.1 d.2.1 d.2.2] 30)).heap[w.heap.size]? = some (.cells #[.int .i64 r.1, .int .i64 r.2.1, .slice d.1 d.2.1 d.2.2] 30) := heap_alloc_new w _
    rw [add0, cell_of_row _ _ j _ _ _ e1]
    simpa using hj
  · intro v' w' h2 h3 h4
    have hg := grown_unalloc h3
    exact h v' w' (hown.snoc d r hd ht h2 hg) (below_grown hg hB (own_ge hown.row)) hg (by simpa using h4)
theorem step_app_rev_drew {ops : Array Oper} {o : Oper} {a : Act} {K : Act → World → Prop} {Q : Exit → Act → World → Prop} {E : Prop} (w : World) (hgd : o.guard = none) (s x : Operand)
    (ho : o.op = .call { callee := .builtin .append, args := #[s, x], argTypes := #[24, 24] })
    (B : Nat) (v : Value) (ss : List Sl) (l : List Rv) (hs : a.eval s = v) (hown : OwnV w B v ss l)
    (r : Rv) (d : Sl) (hd : OwnP w B (.slice d.1 d.2.1 d.2.2) r.2.2) (ht : ∀ p ∈ r.2.2, p.2.2.size ≤ 140737488351232) (c : Nat) (hx : a.eval x = .slice (some ⟨w.heap.size, 0, none⟩) 1 c)
    (hn : l.length ≤ 100000000) (hB : B ≤ w.heap.size)
    (h : ∀ v' w', OwnV w' B v' (ss ++ [d]) (l ++ [r]) → Below B w w' → w.grownBy w' v.ownBlock → (v'.ownBlock = v.ownBlock ∨ v'.ownBlock = some (w.heap.size + 1)) → K (a.put o.dst v') w') :
    if Region.wanted o (yielded ops a.tmps) = true then Oper.wp Try.prog o a ((w.alloc (.cells #[.int .i64 r.1, .int .i64 r.2.1, .slice d.1 d.2.1 d.2.2] 30)).drew) K Q else E :=
  step_app_rev w.drew hgd s x ho B v ss l hs ⟨hown.len, hown.row, hown.ds⟩ r d hd ht c hx hn hB fun v' w' h1 h2 h3 h4 =>
    h v' w' h1 ⟨h2.os, h2.tape, h2.output, h2.size, h2.block⟩ ⟨h3.os, h3.tape, h3.output, h3.size, h3.block⟩ h4
end Go.Proofs.Ytokngfinnieccaa
namespace Go.Proofs.Ytokngfinnieccaa
open Go.ChangeShapes Go.WideShapes Go.RowKit
set_option linter.unusedVariables false
set_option linter.unusedSimpArgs false
set_option maxRecDepth 100000
set_option maxHeartbeats 4000000

/-- a log that lies in a block behind the cells P -/
def lgin (P : List Value) (l : Lg) (s : Sl) (R : List Value) : Array Value := (P ++ (lgl l s ++ R)).toArray
theorem lgin_at (P : List Value) (l : Lg) (s : Sl) (R : List Value) (o i : Nat) (hP : P.length = o) (h8 : Lg8 l) (hi : i < 38) : (lgin P l s R)[o + i]? = (lgc l s)[i]? := by
  subst hP
  unfold lgin
  rw [List.getElem?_toArray, List.getElem?_append_right (by omega), Nat.add_sub_cancel_left, List.getElem?_append_left (by rw [lgl_len h8]; exact hi), lgc_at]
theorem lgin_set (P : List Value) (l : Lg) (s : Sl) (R : List Value) (o i : Nat) (v : Value) (l' : Lg) (s' : Sl) (hP : P.length = o) (h8 : Lg8 l) (hi : i < 38) (h : (lgc l s).setIfInBounds i v = lgc l' s') : (lgin P l s R).setIfInBounds (o + i) v = lgin P l' s' R := by
  subst hP
  have e : (lgl l s).set i v = lgl l' s' := by
    have := congrArg Array.toList h
    simpa [lgc] using this
  unfold lgin
  rw [List.setIfInBounds_toArray, List.set_append_right _ _ (by omega), Nat.add_sub_cancel_left, List.set_append_left _ _ (by rw [lgl_len h8]; exact hi), e]
theorem lgin_set2 (P : List Value) (l : Lg) (s : Sl) (R : List Value) (o i j : Nat) (v u : Value) (l' : Lg) (s' : Sl) (hP : P.length = o) (h8 : Lg8 l) (hi : i < 38) (hj : j < 38) (h : ((lgc l s).setIfInBounds i v).setIfInBounds j u = lgc l' s') : ((lgin P l s R).setIfInBounds (o + i) v).setIfInBounds (o + j) u = lgin P l' s' R := by
  subst hP
  have e : ((lgl l s).set i v).set j u = lgl l' s' := by
    have := congrArg Array.toList h
    simpa [lgc] using this
  unfold lgin
  simp only [List.setIfInBounds_toArray]
  have e1 : (lgl l s ++ R).set i v = (lgl l s).set i v ++ R := List.set_append_left _ _ (by rw [lgl_len h8]; exact hi)
  have e2 : ((lgl l s).set i v ++ R).set j u = ((lgl l s).set i v).set j u ++ R := List.set_append_left _ _ (by rw [List.length_set, lgl_len h8]; exact hj)
  have e3 : ∀ (X : List Value) (q : Nat) (z : Value), (P ++ X).set (P.length + q) z = P ++ X.set q z := fun X q z => by rw [List.set_append_right _ _ (by omega), Nat.add_sub_cancel_left]
  rw [e3, e3, e1, e2, e]
/-- a revision behind a log -/
def addL (l : Lg) (r : Rv) : Lg := { l with revs := l.revs ++ [r], table := l.table.set r.1.toNat (r.2.1, l.base + (l.revs.length + 1 : Nat)) }
theorem addL_8 {l : Lg} (h : Lg8 l) (r : Rv) : Lg8 (addL l r) := ⟨h.1, by simp [addL, h.2]⟩
theorem hadd_any (p o : Nat) (T : TypeId) (P R : List Value) (l : Lg) (sl : Sl) (ss : List Sl) (k : Nat) (b : Int) (d : List Pt) (A : Option Addr) (n c B : Nat) (w : World) (hb : Blk w p T (lgin P l sl R)) (hP : P.length = o) (h8 : Lg8 l) (hT1 : 30 ≠ T) (hT2 : 88 ≠ T)
    (hv : OwnV w B (.slice sl.1 sl.2.1 sl.2.2) ss l.revs) (hB : B ≤ w.heap.size) (hd : OwnP w B (.slice A n c) d) (ht : ∀ q ∈ d, q.2.2.size ≤ 140737488351232) (hk : k < 8) (hlen : l.revs.length ≤ 100000) (hb0 : 0 ≤ l.base) (hb1 : l.base ≤ 2147483647) :
    Calls Try.prog 87 #[.pointer (some ⟨p, o, none⟩), .agg #[.int .i64 k, .int .i64 b, .slice A n c]] w fun e w' => e = .returned (.tuple #[]) ∧ ∃ sl' : Sl, Blk w' p T (lgin P (addL l ((k : Int), b, d)) sl' R) ∧ OwnV w' B (.slice sl'.1 sl'.2.1 sl'.2.2) (ss ++ [(A, n, c)]) (l.revs ++ [((k : Int), b, d)]) ∧
      Only w w' (fun q => q = p ∨ (Value.slice sl.1 sl.2.1 sl.2.2).ownBlock = some q) ∧ ((Value.slice sl'.1 sl'.2.1 sl'.2.2).ownBlock = (Value.slice sl.1 sl.2.1 sl.2.2).ownBlock ∨ ∀ q, (Value.slice sl'.1 sl'.2.1 sl'.2.2).ownBlock = some q → w.heap.size ≤ q) := by
  have hpl := hb.lt
  have hrl := own_lt hv.row
  obtain ⟨Av, cv, hsl⟩ := hv.form
  obtain ⟨m, hm⟩ : ∃ m, l.revs.length = m := ⟨_, rfl⟩
  rw [hm] at hsl hlen
  have hsm : sl.2.1 = m := by injection hsl
  have q35 : (lgin P l sl R)[o + 35]? = some (.slice sl.1 sl.2.1 sl.2.2) := (lgin_at P l sl R o 35 hP h8 (by decide)).trans (lgc_revs h8)
  have hb2 := hb.alloc (.cells #[.int .i64 k, .int .i64 b, .slice A n c] 30)
  have kr := Blk.new w 30 #[.int .i64 k, .int .i64 b, .slice A n c]
  have hv2 := hv.alloc (.cells #[.int .i64 k, .int .i64 b, .slice A n c] 30)
  have hd2 : OwnP (w.alloc (.cells #[.int .i64 k, .int .i64 b, .slice A n c] 30)) B (.slice A n c) d := own_below hd ((Below.refl w.heap.size w).alloc (Nat.le_refl _) _)
  have ho0 : Only w (w.alloc (.cells #[.int .i64 k, .int .i64 b, .slice A n c] 30)) (fun q => q = p ∨ (Value.slice sl.1 sl.2.1 sl.2.2).ownBlock = some q) := Only.alloc _ _
  go_enter Try.func87, Try.ntmps87
  go_upto_region 1 with (fail)
  obtain ⟨g, hg⟩ : ∃ g, w.heap.size = g := ⟨_, rfl⟩
  rw [hg] at kr hpl hB hrl ⊢
  have Hrl := Lib.hid hrl
  clear hrl
  obtain ⟨W, hW⟩ : ∃ W, w.alloc (.cells #[.int .i64 k, .int .i64 b, .slice A n c] 30) = W := ⟨_, rfl⟩
  rw [hW] at hb2 kr hv2 hd2 ho0 ⊢
  have c35 := hb2.cell (o + 35)
  rw [q35] at c35
  have f35 := hb2.frozen (o + 35)
  have c0 := kr.cell 0
  have c1 := kr.cell 1
  have c2 := kr.cell 2
  have lg := kr.lt
  have lp := hb2.lt
  have Hb2 := Lib.hid hb2
  have Hv2 := Lib.hid hv2
  have Hd2 := Lib.hid hd2
  have Ht := Lib.hid ht
  have Hne := Lib.hid (Ne.symm (own_blk_ne hv2.row hb2 hT1))
  have Hln : Hid (l.revs.length ≤ 100000000) := Lib.hid (by rw [hm]; omega)
  have hgW : Hid (g ≤ W.heap.size) := Lib.hid (Nat.le_of_lt lg)
  have HBW : Hid (B ≤ W.heap.size) := Lib.hid (by omega)
  clear hW hb hv hd hb2 hv2 hd2 ht
  go_region_law (first | (refine step_app_rev_drew W rfl (.tmp 8) (.tmp 10) rfl B _ ss l.revs (by simp [Act.eval, Act.put]) Hv2.out ((k : Int), b, d) (A, n, c) Hd2.out Ht.out 1 (by simp [Act.eval, Act.put]) Hln.out HBW.out ?_; intro v1 w1 g1 g2 g3 g4; obtain ⟨A1, c1', rfl⟩ := g1.form; have hb1 := Blk.grown Hb2.out g3 Hne.out; have d35 := hb1.cell (o + 35); have e35 := hb1.frozen (o + 35); have l1 := hb1.lt))
  all_goals
    have T1 := hb1.set_ (o + 35) (.slice A1 (sl.snd.fst + 1) c1')
    rw [lgin_set P l sl R o 35 _ l (A1, sl.snd.fst + 1, c1') hP h8 (by decide) (lgc_set_revs h8 A1 (sl.snd.fst + 1) c1')] at T1
    have kr1 := (kr.grown g3 (fun e => absurd (Hrl.out g e.symm) (Nat.lt_irrefl g))).far (p := ⟨p, o + 35, none⟩) (by simp only; omega) (.slice A1 (sl.snd.fst + 1) c1')
    have hv3 := OwnV.box g1 hb1 hT1 hT2 (Only.setSelf w1 p (o + 35) (.slice A1 (sl.snd.fst + 1) c1'))
    have ho1 : Only W w1 (fun q => q = p ∨ (Value.slice sl.1 sl.2.1 sl.2.2).ownBlock = some q) := (Only.of_grown g3).mono fun q _ h => .inr h
    have ho2 : Only w1 (w1.setCell ⟨p, o + 35, none⟩ (.slice A1 (sl.snd.fst + 1) c1')) (fun q => q = p ∨ (Value.slice sl.1 sl.2.1 sl.2.2).ownBlock = some q) := Only.setCell _ _ _ (.inl rfl)
    have ho3 := (ho0.trans ho1).trans ho2
    obtain ⟨V1, hV1⟩ : ∃ V1, w1.setCell ⟨p, o + 35, none⟩ (.slice A1 (sl.snd.fst + 1) c1') = V1 := ⟨_, rfl⟩
    rw [hV1] at T1 kr1 hv3 ho3 ⊢
    clear hV1 ho1 ho2 hb1 d35 e35 c35 f35 c0 c1 c2 lg lp l1
    have Hg4 := Lib.hid g4
    have Hv3 := Lib.hid hv3
    have Ho3 := Lib.hid ho3
    have T1h := Lib.hid T1
    have hg1 := kr1.lt
    have hp1 := T1.lt
    obtain ⟨t1, t2⟩ := lgc_table (s := (A1, sl.snd.fst + 1, c1')) h8 k hk
    have d1 := T1.cell (o + 1)
    have d35 := T1.cell (o + 35)
    have d2 := T1.cell (o + (19 + k * 2))
    have d3 := T1.cell (o + (19 + k * 2 + 1))
    have f2 := T1.frozen (o + (19 + k * 2))
    have f3 := T1.frozen (o + (19 + k * 2 + 1))
    rw [lgin_at P l _ R o 1 hP h8 (by decide), lgc_base] at d1
    rw [lgin_at P l _ R o 35 hP h8 (by decide), lgc_revs h8] at d35
    rw [lgin_at P l _ R o (19 + k * 2) hP h8 (by omega), t1] at d2
    rw [lgin_at P l _ R o (19 + k * 2 + 1) hP h8 (by omega), t2] at d3
    rw [← Nat.add_assoc] at d2 f2
    rw [← Nat.add_assoc, ← Nat.add_assoc] at d3 f3
    have c0 := kr1.cell 0
    have c1 := kr1.cell 1
    clear g1 g2 g3 g4 hv3 ho3 T1 t1 t2 Hb2 Hv2 Hd2 Ht Hne ho0
    have hk0 : (0 : Int) ≤ (k : Int) := by omega
    have hk8 : (k : Int) < 8 := by omega
    go_upto_region 2 with (fail)
    have hwr : IntKind.i64.wrap (l.base + ((sl.snd.fst : Int) + 1)) = l.base + ((sl.snd.fst : Int) + 1) := IntWalk.i64_in _ (by omega)
    go_still_tail 19, (by kernel_rfl)
    change wpList _ _ _ _ _ V1.drew
    go_wp2_with fail
    go_end0
    have hx : l.base + ((sl.snd.fst : Int) + 1) = l.base + ((l.revs.length + 1 : Nat) : Int) := by omega
    have hLn : (l.revs ++ [((k : Int), b, d)]).length = sl.snd.fst + 1 := by rw [List.length_append, List.length_singleton]; omega
    have hE : (Value.slice A1 (l.revs ++ [((k : Int), b, d)]).length c1') = .slice A1 (sl.snd.fst + 1) c1' := by rw [hLn]
    have U1 := T1h.out.set_ (o + 19 + k * 2) (.int .i64 b)
    have U2 := U1.set_ (o + 19 + k * 2 + 1) (.int .i64 (l.base + ((sl.snd.fst : Int) + 1)))
    have hv4 : OwnV V1 B (.slice A1 (sl.snd.fst + 1) c1') (ss ++ [(A, n, c)]) (l.revs ++ [((k : Int), b, d)]) := hE ▸ Hv3.out
    have hv5 := (hv4.box T1h.out hT1 hT2 (Only.setSelf V1 p (o + 19 + k * 2) (.int .i64 b))).box U1 hT1 hT2 (Only.setSelf _ p (o + 19 + k * 2 + 1) (.int .i64 (l.base + ((sl.snd.fst : Int) + 1))))
    have hz := lgin_set2 P l (A1, sl.snd.fst + 1, c1') R o (19 + k * 2) (19 + k * 2 + 1) _ _ _ _ hP h8 (by omega) (by omega) (lgc_set_table h8 k hk b (l.base + ((sl.snd.fst : Int) + 1)))
    have hadd : lgin P (addL l ((k : Int), b, d)) (A1, sl.snd.fst + 1, c1') R = lgin P { l with table := l.table.set k (b, l.base + ((sl.snd.fst : Int) + 1)) } (A1, sl.snd.fst + 1, c1') R := by
      simp only [addL, Int.toNat_natCast]
      rw [← hx]
      rfl
    rw [← Nat.add_assoc, ← Nat.add_assoc, ← Nat.add_assoc] at hz
    rw [hz, ← hadd] at U2
    have hg4 := Hg4.out
    rw [hE] at hg4
    refine ⟨rfl, A1, sl.snd.fst + 1, c1', U2.drew, ⟨hv5.len, hv5.row, hv5.ds⟩, ?_, ?_⟩
    · exact (Ho3.out.trans ((Only.setCell _ _ _ (.inl rfl)).trans (Only.setCell _ _ _ (.inl rfl)))).trans (Only.drew _)
    · rcases hg4 with h1 | h1
      · exact .inl h1
      · refine .inr fun q hq => ?_
        rw [h1] at hq
        have hgW := hgW.out
        have hq2 := Option.some.inj hq
        have h3 : W.drew.heap.size = W.heap.size := rfl
        omega
end Go.Proofs.Ytokngfinnieccaa
namespace Go.Proofs.Ytokngfinnieccaa
open Go.ChangeShapes Go.WideShapes Go.RowKit
set_option linter.unusedVariables false
set_option linter.unusedSimpArgs false
set_option maxRecDepth 100000
set_option maxHeartbeats 4000000

def v32 (x : BitVec 32) : Value := .int .u32 x.toNat
def poly : BitVec 32 := 0x82f63b78#32
def stp (x : BitVec 32) : BitVec 32 := (x >>> 1) ^^^ (if x.getLsbD 0 then poly else 0#32)
def stps : Nat → BitVec 32 → BitVec 32
  | 0, x => x
  | n + 1, x => stp (stps n x)
def tabN (i : Nat) : BitVec 32 := stps 8 (BitVec.ofNat 32 i)
def tcells (k : Nat) : Array Value := Array.ofFn (n := 256) fun i => if i.val < k then v32 (tabN i.val) else v32 0#32

theorem b_xor (a b : Int) : bits BinOp.xor IntKind.u32 a b = ((BitVec.ofInt 32 a ^^^ BitVec.ofInt 32 b).toNat : Int) := by
  show IntKind.u32.wrap _ = _
  exact IntWalk.u32_in _ ⟨by omega, by have := (BitVec.ofInt 32 a ^^^ BitVec.ofInt 32 b).isLt; show ((BitVec.ofInt 32 a ^^^ BitVec.ofInt 32 b).toNat : Int) ≤ _; omega⟩
theorem b_and (a b : Int) : bits BinOp.and IntKind.u32 a b = ((BitVec.ofInt 32 a &&& BitVec.ofInt 32 b).toNat : Int) := by
  show IntKind.u32.wrap _ = _
  exact IntWalk.u32_in _ ⟨by omega, by have := (BitVec.ofInt 32 a &&& BitVec.ofInt 32 b).isLt; show ((BitVec.ofInt 32 a &&& BitVec.ofInt 32 b).toNat : Int) ≤ _; omega⟩
theorem ofInt_toNat (x : BitVec 32) : BitVec.ofInt 32 (x.toNat : Int) = x := by
  rw [BitVec.ofInt_natCast]; simp
theorem and_one (x : BitVec 32) : x &&& 1#32 = if x.getLsbD 0 then 1#32 else 0#32 := by
  ext i hi
  by_cases h0 : i = 0
  · subst h0; cases hx : x.getLsbD 0 <;> simp_all
  · have : (1#32 : BitVec 32)[i] = false := by
      rw [← BitVec.getLsbD_eq_getElem, BitVec.getLsbD_one]; simp; omega
    cases hx : x.getLsbD 0 <;> simp [this]
theorem stp_eq (x : BitVec 32) : bits BinOp.xor IntKind.u32 ((x.toNat : Int) / 2) (bits BinOp.and IntKind.u32 (-bits BinOp.and IntKind.u32 (x.toNat : Int) 1 % 4294967296) 2197175160) = ((stp x).toNat : Int) := by
  have e1 : BitVec.ofInt 32 ((x.toNat : Int) / 2) = x >>> 1 := by
    rw [show (x.toNat : Int) / 2 = ((x.toNat / 2 : Nat) : Int) by omega, BitVec.ofInt_natCast]
    apply BitVec.eq_of_toNat_eq
    rw [BitVec.toNat_ushiftRight, BitVec.toNat_ofNat, Nat.shiftRight_eq_div_pow]
    have := x.isLt
    omega
  rw [b_xor, b_and, b_and, e1]
  simp only [ofInt_toNat]
  rw [show BitVec.ofInt 32 1 = 1#32 from rfl, and_one]
  unfold stp
  cases x.getLsbD 0
  · exact congrArg (fun y : BitVec 32 => ((x >>> 1 ^^^ y).toNat : Int)) (by decide)
  · exact congrArg (fun y : BitVec 32 => ((x >>> 1 ^^^ y).toNat : Int)) (by decide)
theorem tcells_size (k : Nat) : (tcells k).size = 256 := by simp [tcells]
theorem tcells_one (k : Nat) : (tcells k).all (·.oneCell') = true := by
  rw [Array.all_eq_true]
  intro i hi
  simp only [tcells, Array.getElem_ofFn]
  split <;> rfl
theorem tcells_set (k : Nat) (hk : k < 256) : (tcells k).setIfInBounds k (v32 (tabN k)) = tcells (k + 1) := by
  apply Array.ext
  · simp [tcells]
  · intro i h1 h2
    rw [Array.getElem_setIfInBounds (by simpa [tcells] using h1)]
    simp only [tcells, Array.getElem_ofFn]
    by_cases h : k = i
    · subst h; simp
    · rw [if_neg h]
      by_cases h3 : i < k
      · rw [if_pos h3, if_pos (by omega)]
      · rw [if_neg h3, if_neg (by omega)]
theorem zero_tab (w : World) : (zeroValue 211).run Try.prog w = .ok (.agg (tcells 0)) w := by kernel_rfl
theorem tab_info : (Try.prog.info? 211).map (·.size) = some 256 := by kernel_rfl

theorem table_any (w : World) :
    Calls Try.prog 130 #[] w fun e w' => e = .returned (.agg (tcells 256)) ∧ Below w.heap.size w w' := by
  have hz := zero_tab
  go_enter Try.func130, Try.ntmps130
  go_wp2_with fail
  go_loopw [1, 2, 3] (fun i1 x i wr => ∃ k : Nat, k ≤ 256 ∧ i = .int .i64 k ∧ wr.heap[w.heap.size]? = some (.cells (tcells k) 211 (0, 0)) ∧ Below w.heap.size w wr) (fun _ _ i _ => 256 - (intOf i).toNat)
  case atStart => exact ⟨0, by omega, rfl, heap_alloc_new _ _, (Below.refl _ _).alloc (Nat.le_refl _) _⟩
  case round =>
    obtain ⟨k, hk, rfl, hh, hb⟩ := hrel
    by_cases hlt : k < 256
    · have hcell : wr.cell? ⟨w.heap.size, k, none⟩ = some (v32 0#32) := by
        rw [cell_of_row _ _ k _ _ _ hh]; simp [tcells, hlt]
      have hfr : wr.frozen? ⟨w.heap.size, k, none⟩ = false := frozen_of_row _ _ k _ _ hh
      have Hh := Lib.hid hh
      clear hh
      go_wp2_with fail
      go_loop [2, 8] (fun x j => ∃ n : Nat, n ≤ 8 ∧ j = .int .i64 n ∧ x = .int .u32 (stps n (BitVec.ofNat 32 k)).toNat) (fun _ j => 8 - (intOf j).toNat)
      case atStart => exact ⟨0, by omega, rfl, by simp [stps]; omega⟩
      case round =>
        obtain ⟨n, hn, rfl, rfl⟩ := hrel
        have hb32 := (stps n (BitVec.ofNat 32 k)).isLt
        by_cases hlt2 : n < 8
        · go_wp2_with fail
          go_round
          case rel => exact ⟨n + 1, by omega, by go_num, by rw [stp_eq]; rfl⟩
          case measure => simp [intOf]; omega
        · obtain rfl : n = 8 := by omega
          go_wp2_with fail
          go_roundw
          case rel => exact ⟨k + 1, by omega, by go_num, by
            rw [heap_setCell_same _ _ _ _ _ _ Hh.out]
            rw [show Value.int IntKind.u32 ((stps 8 (BitVec.ofNat 32 k)).toNat : Int) = v32 (tabN k) from rfl, tcells_set k hlt], hb.setCell (p := ⟨w.heap.size, k, none⟩) (Nat.le_refl _) _⟩
          case measure => simp [intOf]; omega
    · obtain rfl : k = 256 := by omega
      go_wp2_with (first | (refine wpList_load_row rfl 211 _ rfl w.heap.size rfl 211 (tcells 256) (0, 0) _ hh Try.underlying211 rfl (by rw [tcells_size]; exact tab_info) ?_) | (refine wpList_store_row rfl 211 _ _ rfl w.heap.size (tcells 256) rfl rfl 211 (tcells 256) hh (by rw [tcells_size]; exact tab_info) rfl (tcells_one _) ?_))
      have h2 := setRow_heap wr w.heap.size (tcells 256) (tcells 256) _ _ hh
      exact bodyPost_ret (v := .agg (tcells 256)) (results_cell_row rfl _ _ w.heap.size 211 (tcells 256) (0, 0) _ rfl h2 Try.underlying211 rfl (by rw [tcells_size]; exact tab_info)) rfl ⟨rfl, Go.below_setRow hb (Nat.le_refl _) _⟩

def crcF (x : BitVec 32) (b : UInt8) : BitVec 32 := (x >>> 8) ^^^ tabN ((x.toNat % 256) ^^^ b.toNat)
def crcL (l : List UInt8) : BitVec 32 := ~~~ (l.foldl crcF (~~~ 0#32))
theorem xor_lt8 (a b : Nat) (ha : a < 256) (hb : b < 256) : a ^^^ b < 256 := Nat.xor_lt_two_pow (n := 8) ha hb
theorem b_xor8 (a b : Nat) (ha : a < 256) (hb : b < 256) : bits BinOp.xor IntKind.u8 (a : Int) (b : Int) = ((a ^^^ b : Nat) : Int) := by
  have h := xor_lt8 a b ha hb
  show IntKind.u8.wrap _ = _
  rw [show IntKind.u8.bits = 8 from rfl, BitVec.ofInt_natCast, BitVec.ofInt_natCast, BitVec.toNat_xor, BitVec.toNat_ofNat, BitVec.toNat_ofNat, Nat.mod_eq_of_lt (by omega), Nat.mod_eq_of_lt (by omega)]
  exact IntWalk.u8_in _ ⟨by omega, by omega⟩

theorem of_step (X : BitVec 32) (b : UInt8) (J : Nat) (hJ : J = (X.toNat % 256) ^^^ b.toNat) : bits BinOp.xor IntKind.u32 ((X.toNat : Int) / 256) ((tabN J).toNat : Int) = ((crcF X b).toNat : Int) := by
  have e1 : BitVec.ofInt 32 ((X.toNat : Int) / 256) = X >>> 8 := by
    rw [show (X.toNat : Int) / 256 = ((X.toNat / 256 : Nat) : Int) by omega, BitVec.ofInt_natCast]
    apply BitVec.eq_of_toNat_eq
    rw [BitVec.toNat_ushiftRight, BitVec.toNat_ofNat, Nat.shiftRight_eq_div_pow]
    have := X.isLt
    omega
  rw [b_xor, e1, ofInt_toNat, hJ]
  rfl
theorem of_any (s : ByteArray) (w : World) (hs : s.size ≤ 9223372036854775807) :
    Calls Try.prog 124 #[.string s] w fun e w' => e = .returned (.int .u32 (crcL s.data.toList).toNat) ∧ Below w.heap.size w w' := by
  have hz := zero_tab
  go_enter Try.func124, Try.ntmps124
  go_wp2_with fail
  refine (table_any _).mono ?_
  rintro e w1 ⟨rfl, hb1⟩
  have hn1 := heap_alloc_new w1 (.cells (tcells 0) 211)
  have hB1 := hb1.size
  go_wp2_with (first | (refine wpList_store_row rfl 211 _ _ rfl w1.heap.size (tcells 256) rfl rfl 211 (tcells 0) hn1 (by rw [tcells_size]; exact tab_info) (by rw [tcells_size, tcells_size]) (tcells_one _) ?_))
  have h2 := setRow_heap (w1.alloc (.cells (tcells 0) 211)) w1.heap.size (tcells 0) (tcells 256) _ _ hn1
  have hb2 : Below w.heap.size w ((w1.alloc (.cells (tcells 0) 211)).setRow w1.heap.size (tcells 256)) := Go.below_setRow (hb1.alloc hb1.size _) hb1.size _
  clear hz hn1
  generalize (w1.alloc (.cells (tcells 0) 211)).setRow w1.heap.size (tcells 256) = w2 at *
  have hcells : ∀ j, j < 256 → w2.cell? ⟨w1.heap.size, j, none⟩ = some (.int .u32 (tabN j).toNat) := by
    intro j hj
    rw [cell_of_row _ _ j _ _ _ h2]; simp [tcells, hj, v32]
  have Hcells := Lib.hid hcells
  clear hcells h2
  go_loop [4, 9] (fun x i => ∃ (k : Nat) (X : BitVec 32), k ≤ s.size ∧ i = .int .i64 k ∧ x = .int .u32 X.toNat ∧ Hid (~~~ ((s.data.toList.drop k).foldl crcF X) = crcL s.data.toList)) (fun _ i => s.size - (intOf i).toNat)
  case atStart => exact ⟨0, ~~~ 0#32, by omega, rfl, rfl, Lib.hid rfl⟩
  case round =>
    obtain ⟨k, X, hk, rfl, rfl, hX⟩ := hrel
    have hX32 := X.isLt
    by_cases hlt : k < s.size
    · have hc8 : (s[k].toNat : Int) < 256 := by have := s[k].toNat_lt; omega
      obtain ⟨J, hJ⟩ : ∃ J, J = (X.toNat % 256) ^^^ s[k].toNat := ⟨_, rfl⟩
      have hE : bits BinOp.xor IntKind.u8 ((X.toNat : Int) % 256) (s[k].toNat : Int) = (J : Int) := by
        rw [show ((X.toNat : Int) % 256) = ((X.toNat % 256 : Nat) : Int) by omega, b_xor8 _ _ (by omega) s[k].toNat_lt, hJ]
      have hJ8 : J < 256 := by rw [hJ]; exact xor_lt8 _ _ (by omega) s[k].toNat_lt
      have HJ := Lib.hid hJ
      clear hJ
      have hcell := Hcells.out J hJ8
      go_wp2_with fail
      go_round
      case rel => exact ⟨k + 1, crcF X s[k], by omega, by go_num, by rw [of_step X s[k] J HJ.out], by
        rw [← hX.out]
        conv => rhs; rw [List.drop_eq_getElem_cons (show k < s.data.toList.length by rw [bs_len]; omega), List.foldl_cons]
        exact Lib.hid rfl⟩
      case measure => simp [intOf]; omega
    · obtain rfl : k = s.size := by omega
      have hE : Hid (~~~ X = crcL s.data.toList) := by
        rw [← hX.out, List.drop_eq_nil_of_le (by rw [bs_len]; omega)]; exact Lib.hid rfl
      go_wp2_with fail
      go_ret
      refine ⟨?_, hb2⟩
      rw [← hE.out]
      show Ending.returned (.int .u32 (bits BinOp.xor IntKind.u32 IntKind.u32.max (X.toNat : Int))) = _
      rw [b_xor, ofInt_toNat, show BitVec.ofInt 32 IntKind.u32.max = BitVec.allOnes 32 from by decide, BitVec.allOnes_xor]
end Go.Proofs.Ytokngfinnieccaa
namespace Go.Proofs.Ytokngfinnieccaa
open Go.ChangeShapes Go.WideShapes Go.RowKit
set_option linter.unusedVariables false
set_option linter.unusedSimpArgs false
set_option maxRecDepth 100000

def RowU8 (w : World) (g : Nat) (l : List UInt8) : Prop :=
  ∃ cs fr, w.heap[g]? = some (.cells cs 5 fr) ∧ l.length ≤ cs.size ∧ cs.toList.take l.length = l.map u8v ∧ ∀ j, j < l.length → ¬ (fr.1 ≤ j ∧ j < fr.2)
section
variable {w w' : World} {g : Nat} {l : List UInt8}
theorem RowU8.cell (h : RowU8 w g l) (j : Nat) (hj : j < l.length) : w.cell? ⟨g, j, none⟩ = some (.int .u8 (l[j].toNat : Int)) := by
  obtain ⟨cs, fr, hh, hl, htk, hf⟩ := h
  rw [cell_of_row _ _ j _ _ _ hh]
  have e : (l.map u8v)[j]? = some (.int .u8 (l[j].toNat : Int)) := by simp [hj, u8v]
  rw [← htk, List.getElem?_take, if_pos hj] at e
  simpa using e
theorem RowU8.string (h : RowU8 w g l) (cap : Nat) : (convert 153 9 (.slice (some ⟨g, 0, none⟩) l.length cap)).run Try.prog w = .ok (.string ⟨l.toArray⟩) w :=
  run_convert_bytes_back w _ _ 5 _ _ l Try.underlying153 Try.underlying5 Try.underlying9 fun j hj => by rw [add0]; exact h.cell j hj
/-- string([]byte{..}) -/
theorem run_string_new (w : World) (cs : Array Value) (l : List UInt8) (hc : cs.toList = l.map u8v) (n cap : Nat) (hn : n = l.length) (g : Nat) (hg : w.heap.size = g) :
    (convert 153 9 (.slice (some ⟨g, 0, none⟩) n cap)).run Try.prog (w.alloc (.cells cs 5)) = .ok (.string ⟨l.toArray⟩) (w.alloc (.cells cs 5)) := by
  subst hn hg
  have hl : cs.toList.length = l.length := by rw [hc]; simp
  have h : RowU8 (w.alloc (.cells cs 5)) w.heap.size l := ⟨cs, (0, 0), heap_alloc_new w _, by simpa using Nat.le_of_eq hl.symm, by rw [← hl, List.take_length, hc], by intro j hj; omega⟩
  exact h.string cap
end
end Go.Proofs.Ytokngfinnieccaa
namespace Go.Proofs.Ytokngfinnieccaa
open Go.ChangeShapes Go.WideShapes Go.RowKit
set_option linter.unusedVariables false
set_option linter.unusedSimpArgs false
set_option maxRecDepth 100000
set_option maxHeartbeats 4000000

def fourL (x : Nat) : List UInt8 := [UInt8.ofNat x, UInt8.ofNat (x / 256), UInt8.ofNat (x / 65536), UInt8.ofNat (x / 16777216)]

theorem mod_of (x : Nat) : (UInt8.ofNat x).toNat = x % 256 := by simp [UInt8.toNat_ofNat']
theorem four_any (x : Nat) (hx : (x : Int) < 4294967296) (w : World) :
    Calls Try.prog 123 #[.int .u32 x] w fun e w' => e = .returned (.string ⟨(fourL x).toArray⟩) ∧ Below w.heap.size w w' := by
  have hcv := run_string_new w #[.int .u8 ((x : Int) % 256), .int .u8 ((x : Int) / 256 % 256), .int .u8 ((x : Int) / 65536 % 256), .int .u8 ((x : Int) / 16777216)] (fourL x)
    (by simp [fourL, u8v, mod_of]; omega) 4 4 rfl _ rfl
  go_enter Try.func123, Try.ntmps123
  go_wp2_with fail
  go_ret
  exact ⟨rfl, (Below.refl _ _).alloc (Nat.le_refl _) _⟩

/-- a frame's bytes ahead of its sum, and whole -/
def frH (k : Nat) (b : List UInt8) : List UInt8 := UInt8.ofNat k :: UInt8.ofNat (b.length / 256) :: UInt8.ofNat b.length :: b
def frL (k : Nat) (b : List UInt8) : List UInt8 := frH k b ++ fourL (crcL (frH k b)).toNat

theorem fput_good (k : Nat) (b : ByteArray) (h1 : (1 : Int) ≤ k) (h2 : (k : Int) ≤ 255) (h3 : (b.size : Int) ≤ 4000) (w : World) :
    Calls Try.prog 111 #[.agg #[.int .i64 k, .string b]] w fun e w' => e = .returned (.tuple #[.string ⟨(frL k b.data.toList).toArray⟩, .int .i64 0]) ∧ Below w.heap.size w w' := by
  have hcv := run_string_new (w.alloc (.cells #[.int .i64 k, .string b] 182)) #[.int .u8 (k : Int), .int .u8 ((b.size : Int) / 256), .int .u8 ((b.size : Int) % 256)] [UInt8.ofNat k, UInt8.ofNat (b.size / 256), UInt8.ofNat b.size]
    (by simp [u8v, mod_of]; omega) 3 3 rfl (w.heap.size + 1) (by simp)
  go_enter Try.func111, Try.ntmps111
  go_wp2_with fail
  have e1 : (⟨#[UInt8.ofNat k, UInt8.ofNat (b.size / 256), UInt8.ofNat b.size]⟩ ++ b : ByteArray) = ⟨(frH k b.data.toList).toArray⟩ := bs_ext (by rw [bs_append]; rfl)
  rw [e1]
  have hsz : (⟨(frH k b.data.toList).toArray⟩ : ByteArray).size ≤ 9223372036854775807 := by rw [bs_size]; simp only [frH, List.length_cons, bs_len]; omega
  refine (of_any _ _ hsz).mono ?_
  rintro e w1 ⟨rfl, hb1⟩
  have hb2 : Below w.heap.size w w1 := (((Below.refl w.heap.size w).alloc (Nat.le_refl _) _).alloc (by simp) _).trans (hb1.mono (by simp; omega))
  clear hb1 hcv e1
  go_wp2_with fail
  refine (four_any _ (by have := (crcL (frH k b.data.toList)).isLt; omega) _).mono ?_
  rintro e w2 ⟨rfl, hb3⟩
  have hs2 : (⟨(fourL (crcL (frH k b.data.toList)).toNat).toArray⟩ : ByteArray).size ≤ 4 := by rw [bs_size]; simp [fourL]
  have hs1 : (⟨(frH k b.data.toList).toArray⟩ : ByteArray).size ≤ 4003 := by rw [bs_size]; simp only [frH, List.length_cons, bs_len]; omega
  go_wp2_with fail
  go_ret2
  refine ⟨?_, hb2.trans (hb3.mono hb2.size)⟩
  have e2 : (⟨(frH k b.data.toList).toArray⟩ ++ ⟨(fourL (crcL (frH k b.data.toList)).toNat).toArray⟩ : ByteArray) = ⟨(frL k b.data.toList).toArray⟩ := bs_ext (by rw [bs_append]; simp [frL])
  rw [← e2]
  rfl

end Go.Proofs.Ytokngfinnieccaa
namespace Go.Proofs.Ytokngfinnieccaa
set_option linter.unusedVariables false
set_option linter.unusedSimpArgs false
set_option maxRecDepth 100000

/-- n bits of the number D taken in, the lowest first -/
def kb (x : BitVec 32) (D : Nat) : Nat → BitVec 32
  | 0 => x
  | n + 1 => kb (stp (x ^^^ BitVec.ofNat 32 (D % 2))) (D / 2) n
end Go.Proofs.Ytokngfinnieccaa
namespace Go.Proofs.Ytokngfinnieccaa
set_option linter.unusedVariables false
set_option linter.unusedSimpArgs false
set_option maxRecDepth 100000

theorem fourL_len (x : Nat) : (fourL x).length = 4 := rfl
theorem frH_len (k : Nat) (b : List UInt8) : (frH k b).length = b.length + 3 := by simp [frH]
theorem frL_len (k : Nat) (b : List UInt8) : (frL k b).length = b.length + 7 := by
  rw [frL, List.length_append, frH_len, fourL_len]
theorem frL_zero : frL 3 [] = [3, 0, 0, 9, 99, 74, 138] := by decide +kernel
end Go.Proofs.Ytokngfinnieccaa
namespace Go.Proofs.Ytokngfinnieccaa
open Go.ChangeShapes Go.WideShapes Go.RowKit Go.Joins
set_option linter.unusedVariables false
set_option linter.unusedSimpArgs false
set_option maxRecDepth 100000

theorem sized_part {H : Type} {P : Program} {ts : List TypeId} {ds : List (DataW H)} (h : (DataW.weightsEach P ts ds).all (· ≤ reachBytes) = true) {j : Nat} {t : TypeId} {d : DataW H} (ht : ts[j]? = some t) (hd : ds[j]? = some d) : ∀ x ∈ DataW.weights P t d, x ≤ 140737488351232 := by
  intro x hx
  have := List.all_eq_true.1 h _ (DataW.weights_mem_each ht hd x hx)
  have h2 : x ≤ reachBytes := by simpa using this
  have h3 : reachBytes = 140737488351232 := by decide
  omega
section
variable {H : Type} {enc : TypeId × Value → H} {w : World} {base : Nat} {spare : Nat → Bool} {held : Bool}
end
end Go.Proofs.Ytokngfinnieccaa
namespace Go.Proofs.Ytokngfinnieccaa
open Go.ChangeShapes Go.WideShapes Go.RowKit Go.Joins Go.Deep
set_option linter.unusedVariables false
set_option linter.unusedSimpArgs false
set_option maxRecDepth 100000

section
variable {H : Type} {enc : TypeId × Value → H} {P : Program} {w : World} {base : Nat} {spare : Nat → Bool} {held : Bool}
end
section
variable {H : Type} {enc : TypeId × Value → H} {w : World} {base : Nat} {spare : Nat → Bool} {held : Bool}
end
end Go.Proofs.Ytokngfinnieccaa
namespace Go.Proofs.Ytokngfinnieccaa
open Go.ChangeShapes Go.WideShapes Go.RowKit Go.Joins Go.Deep
set_option linter.unusedVariables false
set_option linter.unusedSimpArgs false
set_option maxRecDepth 100000
set_option maxHeartbeats 4000000

abbrev Fm := Int × ByteArray
section
variable {w w' : World} {B B' n c : Nat} {A : Option Addr} {l : List Fm}
end
end Go.Proofs.Ytokngfinnieccaa
namespace Go.Proofs.Ytokngfinnieccaa
open Go.ChangeShapes Go.WideShapes Go.RowKit Go.Joins Go.Deep
set_option linter.unusedVariables false
set_option linter.unusedSimpArgs false
set_option maxRecDepth 100000
set_option maxHeartbeats 4000000

def okF (p : Fm) : Prop := 1 ≤ p.1 ∧ p.1 ≤ 255 ∧ p.2.size ≤ 4000
instance (p : Fm) : Decidable (okF p) := by unfold okF; infer_instance
def txF (p : Fm) : List UInt8 := frL p.1.toNat p.2.data.toList
def flat : List Fm → List UInt8
  | [] => []
  | p :: l => txF p ++ flat l
theorem flat_app (l l' : List Fm) : flat (l ++ l') = flat l ++ flat l' := by
  induction l with
  | nil => rfl
  | cons p l ih => simp only [List.cons_append, flat, ih, List.append_assoc]
theorem txF_len (p : Fm) : (txF p).length = p.2.size + 7 := by unfold txF; rw [frL_len]; rfl
/-- what Put makes of a frame -/
theorem put_okF (p : Fm) (h : okF p) (w : World) : Calls Try.prog 111 #[.agg #[.int .i64 p.1, .string p.2]] w fun e w' => e = .returned (.tuple #[.string ⟨(txF p).toArray⟩, .int .i64 0]) ∧ Below w.heap.size w w' := by
  obtain ⟨h1, h2, h3⟩ := h
  have := fput_good p.1.toNat p.2 (by omega) (by omega) (by omega) w
  rw [show ((p.1.toNat : Nat) : Int) = p.1 by omega] at this
  exact this
end Go.Proofs.Ytokngfinnieccaa
namespace Go.Proofs.Ytokngfinnieccaa
set_option linter.unusedVariables false
set_option linter.unusedSimpArgs false

/-- the log while it is read -/
structure Rd_ (l : Lg) (t : ByteArray) : Prop where
  l8 : Lg8 l
  base0 : 0 ≤ l.base
  base1 : l.base ≤ 2147483647
  len : l.revs.length ≤ 64
  txt : t.size ≤ 500
theorem next_len {l : Lg} {n : Nat} {r : Rv} (h : nextE l n r = 0) : oneE r = 0 ∧ (l.table.getD r.1.toNat (0, 0)).1 < r.2.1 ∧ l.revs.length < 64 ∧ l.base + l.revs.length < 2147483647 ∧ fitsE r.2.2 n = 0 := by
  unfold nextE at h
  split at h
  · rename_i h1; exact absurd h h1
  · rename_i h1
    split at h
    · exact absurd h (by decide)
    · rename_i h2
      split at h
      · exact absurd h (by decide)
      · rename_i h3
        exact ⟨by simpa using h1, by omega, by omega, by omega, h⟩
end Go.Proofs.Ytokngfinnieccaa
namespace Go.Proofs.Ytokngfinnieccaa
set_option linter.unusedVariables false
set_option linter.unusedSimpArgs false
set_option maxRecDepth 100000

end Go.Proofs.Ytokngfinnieccaa
namespace Go.Proofs.Ytokngfinnieccaa
open Go.ChangeShapes Go.WideShapes Go.RowKit
set_option linter.unusedVariables false
set_option linter.unusedSimpArgs false
set_option maxRecDepth 100000
set_option maxHeartbeats 4000000

def doneT : ByteArray := ⟨#[3, 0, 0, 9, 99, 74, 138]⟩
theorem doneT_tx : doneT.data.toList = txF (3, ⟨#[]⟩) := by
  have := frL_zero
  unfold txF
  exact this.symm
theorem hdone_any (w : World) : Calls Try.prog 83 #[] w fun e w' => e = .returned (.string doneT) ∧ Below w.heap.size w w' := by
  have hc := put_okF (3, ⟨#[]⟩) (by decide) w
  rw [← doneT_tx] at hc
  have hc2 : Calls Try.prog 111 #[.agg #[.int .i64 3, .string ⟨#[]⟩]] w fun e w' => e = .returned (.tuple #[.string doneT, .int .i64 0]) ∧ Below w.heap.size w w' := hc
  clear hc
  obtain ⟨D, hD⟩ : ∃ D, doneT = D := ⟨_, rfl⟩
  rw [hD] at hc2 ⊢
  go_enter Try.func83, Try.ntmps83
  go_wp2_with fail
  refine hc2.mono ?_
  rintro e w1 ⟨rfl, hb⟩
  go_wp2_with fail
  go_ret
  exact ⟨rfl, hb⟩
end Go.Proofs.Ytokngfinnieccaa
namespace Go.Proofs.Ytokngfinnieccaa
open Go.ChangeShapes Go.WideShapes Go.RowKit
set_option linter.unusedVariables false
set_option linter.unusedSimpArgs false
set_option maxRecDepth 100000
set_option maxHeartbeats 4000000

def viC (ns : List Nat) : List UInt8 := ns.flatMap vi
theorem nums_good (ns : List Nat) (A : Option Addr) (n c : Nat) (w : World) (h : RdI w w.heap.size A n c (ns.map Int.ofNat)) (hle : ∀ x ∈ ns, x ≤ 2147483647) (hn : ns.length ≤ 100) (S : ByteArray) (hS : S.data.toList = viC ns) :
    Calls Try.prog 109 #[.slice A n c] w fun e w' => e = .returned (.tuple #[.string S, .bool true]) ∧ Below w.heap.size w w' := by
  have H := Lib.hid h
  have Hle := Lib.hid hle
  have HS := Lib.hid hS
  have hnl : n = ns.length := by have := h.1; simpa using this
  have Hnl := Lib.hid hnl
  have hn100 : n ≤ 100 := by omega
  clear h hle hS hnl hn
  go_enter Try.func109, Try.ntmps109
  go_wp2_with fail
  go_loopw [4, 6, 7, 8, 11] (fun ov nv sv ev iv wr => ∃ (k : Nat) (T : ByteArray), k ≤ n ∧ iv = .int .i64 k ∧ ov = .string T ∧ T.size ≤ 5 * k ∧ Hid (T.data.toList = viC (ns.take k)) ∧ Hid (Below w.heap.size w wr)) (fun _ _ _ _ iv _ => n - (intOf iv).toNat)
  case atStart => exact ⟨0, ⟨#[]⟩, by omega, rfl, rfl, Nat.zero_le _, Lib.hid rfl, Lib.hid (Below.refl _ _)⟩
  case round =>
    obtain ⟨k, T, hk, rfl, rfl, hT5, hT, hbw⟩ := hrel
    by_cases hlt : k < n
    · have hkl : k < ns.length := by have := Hnl.out; omega
      obtain ⟨b, o, rfl, hb, hc⟩ := (H.out.below hbw.out).at_ k hlt
      simp only [List.getElem_map, Int.ofNat_eq_natCast] at hc
      obtain ⟨x, hx⟩ : ∃ x, ns[k] = x := ⟨_, rfl⟩
      have hxm : x ≤ 2147483647 := by rw [← hx]; exact Hle.out _ (List.getElem_mem hkl)
      rw [hx] at hc
      have hk0 : (0 : Int) ≤ (k : Int) := by omega
      have hkn : (k : Int) < (n : Int) := by omega
      have hgl : b < wr.heap.size := by have := hbw.out.size; omega
      obtain ⟨z, hz⟩ : ∃ z, (⟨(vi x).toArray⟩ : ByteArray) = z := ⟨_, rfl⟩
      obtain ⟨hz5, hzl⟩ := vi_size x z hz hxm
      have hcall := put_good x wr (by omega)
      rw [hz] at hcall
      have Hcall := Lib.hid hcall
      have hT2 : (T ++ z).data.toList = viC (ns.take (k + 1)) := by
        rw [bs_append, hT.out, hzl, List.take_succ_eq_append_getElem hkl, hx]
        simp [viC]
      have HT2 := Lib.hid hT2
      have hsz : (9223372036854775807 < T.size + z.size) = False := by simp; omega
      have hsz2 : (T ++ z).size ≤ 5 * (k + 1) := by simp; omega
      clear hcall hz hzl hT2 hx hT
      go_wp2_with fail
      refine Hcall.out.mono ?_
      rintro e w1 ⟨rfl, hb1⟩
      have hw1 := hbw.out.trans (hb1.mono hbw.out.size)
      go_wp2_with fail
      go_roundw
      case rel => exact ⟨k + 1, T ++ z, by omega, by go_num, rfl, hsz2, HT2, Lib.hid hw1⟩
      case measure => simp [intOf]; omega
    · obtain rfl : k = n := by omega
      have hTS : T = S := by
        apply ba_list
        rw [hT.out, HS.out, List.take_of_length_le (by have := Hnl.out; omega)]
      subst hTS
      go_wp2_with fail
      go_ret2
      exact ⟨rfl, hbw.out⟩
end Go.Proofs.Ytokngfinnieccaa
