/- A world of hands: how far it is from being calm; up and down, in all. Contract of world.Settle. Contract of world.New. Slices of slices of ints, and of deltas, opened. Contract of the laws' helper Within: a number from 0 to n-1. A world of a law: all its blocks lie behind what was there. -/
import Derived.Test.YtokngfinnieccaaU26
import Derived.Test.YtokngfinnieccaaU28
import Derived.Test.YtokngfinnieccaaU12
import Derived.Test.YtokngfinnieccaaU8
import Derived.Test.YtokngfinnieccaaU11
import Derived.OpenShut
import Derived.Deep.Slices
import Derived.Test.YtokngfinnieccaaU1
namespace Go.Proofs.Ytokngfinnieccaa
open Go.ChangeShapes Go.WideShapes Go.RowKit
set_option linter.unusedVariables false
set_option linter.unusedSimpArgs false
set_option maxRecDepth 100000
set_option maxHeartbeats 4000000
def muX (L : Nat) (x : St) : Nat := 5 * accN x + (L - x.told)
def muD (s : Sh) (X : List St) : Nat := (X.map (muX s.log.revs.length)).sum
def muC (w : World) (gs L i : Nat) : Nat :=
 5 * ((match w.cell? ⟨gs, i * 10 + 8, none⟩ with | some (.slice _ n _) => n | _ => 0) + (match w.cell? ⟨gs, i * 10 + 6, none⟩ with | some (.bool b) => if b then 1 else 0 | _ => 0)) + (L - (match w.cell? ⟨gs, i * 10 + 9, none⟩ with | some (.int _ t) => t.toNat | _ => 0))
def muWd (w : World) (q : Nat) : Nat :=
 match w.cell? ⟨q, 0, none⟩, w.cell? ⟨q, 1, none⟩ with
 | some (.pointer (some p)), some (.slice (some a) n _) => ((List.range n).map (muC w a.block (match w.cell? ⟨p.block, 40, none⟩ with | some (.slice _ m _) => m | _ => 0))).sum
 | _, _ => 0
theorem WdP.mu {w : World} {P : Nat → Prop} {q : Nat} {s : Sh} {X : List St} {put edits : Int} (h : WdP w P q s X put edits) : muWd w q = muD s X := by
 obtain ⟨F, sq, gs, cap, E, sp, h, _⟩ := h
 have q0 : w.cell? ⟨q, 0, none⟩ = some (.pointer (some ⟨sq, 0, none⟩)) := h.kq.cell 0
 have q1 : w.cell? ⟨q, 1, none⟩ = some (.slice (some ⟨gs, 0, none⟩) X.length cap) := h.kq.cell 1
 have h40 : ∃ a c, w.cell? ⟨sq, 40, none⟩ = some (.slice a s.log.revs.length c) := by
  obtain ⟨sl, ss, mp, k, ho, _⟩ := h.sh.mem.ex
  have hl : sl.2.1 = s.log.revs.length := by obtain ⟨A9, c9, e9⟩ := ho.form; injection e9
  refine ⟨sl.1, sl.2.2, ?_⟩
  rw [← hl]
  exact (k.cell 40).trans (shc_revs h.sh.inv.log.hg.l8)
 obtain ⟨a4, c4, h40⟩ := h40
 unfold muWd muD
 rw [q0, q1]
 simp only [h40]
 have e : X.map (muX s.log.revs.length) = (List.range X.length).map (muC w gs s.log.revs.length) := by
  refine List.ext_getElem (by simp) fun i h1 h2 => ?_
  have hi : i < X.length := by simpa using h1
  rw [List.getElem_map, List.getElem_map, List.getElem_range]
  obtain ⟨a, ha, hs, hat⟩ := h.at_ (List.getElem?_eq_getElem hi)
  have e8 : w.cell? ⟨gs, i * 10 + 8, none⟩ = some (.slice a.2.2.1 a.2.2.2.1 a.2.2.2.2) := hat 8 (by decide)
  have e6 : w.cell? ⟨gs, i * 10 + 6, none⟩ = some (.bool X[i].c.wait) := hat 6 (by decide)
  have e9 : w.cell? ⟨gs, i * 10 + 9, none⟩ = some (.int .i64 X[i].told) := hat 9 (by decide)
  have hu : a.2.2.2.1 = X[i].up.length := by
   rcases hs.u.2 with ⟨f1, f2, _⟩ | ⟨m, d, g, o, cur, f1, f2, f3, _⟩
   · rw [f1, f2]; rfl
   · rw [f1, f3]; rfl
  unfold muC muX accN
  rw [e8, e6, e9, hu]
  simp only [Int.toNat_natCast]
 rw [e]
theorem muX_mono (L : Nat) (x : St) : muX (L + 1) x ≤ muX L x + 1 := by unfold muX; omega
theorem sum_succ (L : Nat) : ∀ X : List St, (X.map (muX (L + 1))).sum ≤ (X.map (muX L)).sum + X.length
 | [] => Nat.le_refl _
 | x :: X => by
   have h1 := sum_succ L X
   have h2 := muX_mono L x
   simp only [List.map_cons, List.sum_cons, List.length_cons]
   omega
section
variable {s : Sh} {X : List St} {put edits : Int} {e : Nat → Nat}
theorem WI.mu_up (h : WI s X put edits e) {i : Nat} {x : St} (hx : X[i]? = some x) {s' : Sh} (hu : x.up.length = 1) (hl : s'.log.revs.length = s.log.revs.length + 1) : muD s' (X.set i { x with up := [] }) < muD s X := by
 have h1 := sum_setW (muX (s.log.revs.length + 1)) X i x { x with up := [] } hx
 have h2 := sum_succ s.log.revs.length X
 have h4 := h.n4
 unfold muD
 rw [hl]
 have h5 : muX (s.log.revs.length + 1) { x with up := [] } + 5 = muX (s.log.revs.length + 1) x := by
  unfold muX accN
  simp only [List.length_nil, hu]
  omega
 omega
theorem WI.mu_down (h : WI s X put edits e) {i : Nat} {x : St} (hx : X[i]? = some x) (ht : x.told < s.log.revs.length) : muD s (X.set i (downS (s.log.revs[x.told]) x)) < muD s X := by
 have hS := h.seat i x hx
 have h1 := sum_setW (muX s.log.revs.length) X i x (downS (s.log.revs[x.told]) x) hx
 have hd := (h.down hx ht).2.2.2
 have hn : accN (downS (s.log.revs[x.told]) x) = accN x := by
  unfold downS
  split
  · rename_i hc
    exact (hS.own ht (hc.trans hS.who) h.txr h.len).2.2.2.2.2
  · rename_i hc
    exact (hS.other ht (fun e => hc (e.trans hS.who.symm)) h.txr h.len (h.bud hx)).2.2.2
 unfold muD
 have h5 : muX s.log.revs.length (downS (s.log.revs[x.told]) x) + 1 = muX s.log.revs.length x := by
  unfold muX
  rw [hn, hd]
  omega
 omega
end
inductive UpR (s : Sh) (X : List St) (i : Nat) : Bool → Sh → List St → Prop
 | no (x : St) (hx : X[i]? = some x) (hu : x.up = []) : UpR s X i false s X
 | yes (x : St) (b : Int) (d : List Pt) (hx : X[i]? = some x) (hu : x.up = [(b, (i : Int), x.c.seq, d)]) (hE : subE s b i x.c.seq d = 0) (hl : (subS s none b i x.c.seq d).log.revs.length = s.log.revs.length + 1) : UpR s X i true (subS s none b i x.c.seq d) (X.set i { x with up := [] })
inductive DownR (s : Sh) (X : List St) (i : Nat) : Bool → List St → Prop
 | no (x : St) (hx : X[i]? = some x) (ht : x.told = s.log.revs.length) : DownR s X i false X
 | yes (x : St) (hx : X[i]? = some x) (ht : x.told < s.log.revs.length) : DownR s X i true (X.set i (downS (s.log.revs[x.told]) x))
def WdI (w : World) (P : Nat → Prop) (q : Nat) (s : Sh) (X : List St) (put edits : Int) (e : Nat → Nat) : Prop := WdP w P q s X put edits ∧ WI s X put edits e
section
variable {w w' : World} {P : Nat → Prop} {q : Nat} {s : Sh} {X : List St} {put edits : Int} {e : Nat → Nat}
theorem WdI.below (h : WdI w P q s X put edits e) (hb : Below w.heap.size w w') : WdI w' P q s X put edits e := ⟨h.1.below hb, h.2⟩
theorem WdI.mono {P' : Nat → Prop} (h : WdI w P q s X put edits e) (hP : ∀ k, k < w.heap.size → P k → P' k) : WdI w P' q s X put edits e := ⟨h.1.mono hP, h.2⟩
theorem wup_I (h : WdI w P q s X put edits e) {i : Nat} (hi : i < X.length) :
 Calls Try.prog 26 #[.pointer (some ⟨q, 0, none⟩), .int .i64 i] w fun en w' => ∃ b s' X', en = .returned (.bool b) ∧ UpR s X i b s' X' ∧ WdI w' (grow P w w') q s' X' put edits e ∧ Only w w' P := by
 have hx : X[i]? = some X[i] := List.getElem?_eq_getElem hi
 obtain ⟨x, hxx⟩ : ∃ x, X[i] = x := ⟨_, rfl⟩
 rw [hxx] at hx
 by_cases hu : x.up = []
 · refine (wupno_P w P q s X put edits h.1 i x hx hu).mono ?_
   rintro en w' ⟨rfl, hb⟩
   exact ⟨false, s, X, rfl, .no x hx hu, (h.below hb).mono fun k _ hk => .inl hk, Only.of_below hb⟩
 · obtain ⟨b, d, e1, e2, e3, e4, e5⟩ := h.2.up hx hu
   have hd : ∀ p ∈ d, p.2.2.size ≤ 140737488351232 := by
    have hS := h.2.seat i x hx
    obtain ⟨b', d', f1, _, f3, _⟩ := hS.up hu h.2.txr (h.2.bud hx)
    rw [e1] at f1
    have f1 := (List.cons.inj f1).1
    have : d = d' := by
     have := congrArg (fun z : Mg => z.2.2.2) f1
     exact this
    rw [this]
    exact text_good (do_chk f3).1
   refine (wup_P w P q s X put edits h.1 i x hx b i x.c.seq d e1 hd).mono ?_
   rintro en w' ⟨rfl, hp, ho⟩
   exact ⟨true, _, _, rfl, .yes x b d hx e1 e2 e5, ⟨hp, e4⟩, ho⟩
theorem wdown_I (h : WdI w P q s X put edits e) {i : Nat} (hi : i < X.length) :
 Calls Try.prog 27 #[.pointer (some ⟨q, 0, none⟩), .int .i64 i] w fun en w' => ∃ b X', en = .returned (.bool b) ∧ DownR s X i b X' ∧ WdI w' (grow P w w') q s X' put edits e ∧ Only w w' P := by
 have hx : X[i]? = some X[i] := List.getElem?_eq_getElem hi
 obtain ⟨x, hxx⟩ : ∃ x, X[i] = x := ⟨_, rfl⟩
 rw [hxx] at hx
 have hS := h.2.seat i x hx
 by_cases ht : x.told = s.log.revs.length
 · refine (wdownno_P w P q s X put edits h.1 i x hx h.2.base ht).mono ?_
   rintro en w' ⟨rfl, hb⟩
   exact ⟨false, X, rfl, .no x hx ht, (h.below hb).mono fun k _ hk => .inl hk, Only.of_below hb⟩
 · have htl : x.told < s.log.revs.length := by have := hS.told; omega
   obtain ⟨d1, d2, d3, d4⟩ := h.2.down hx htl
   have hD := DownR.yes (s := s) (X := X) (i := i) x hx htl
   obtain ⟨⟨ra, rb, dd⟩, hr⟩ : ∃ r, s.log.revs[x.told] = r := ⟨_, rfl⟩
   rw [hr] at d1 d2 d3 d4 hD
   by_cases hw : ra = x.c.who
   · obtain ⟨f1, f2, f3⟩ := d3 hw
     simp only at f2 f3
     have hchk : chk dd = 0 := by rw [f3]; exact (hS.ck.sk f1).1
     have hup : x.up = [] := (hS.own htl (by rw [hr]; exact hw.trans hS.who) h.2.txr h.2.len).2.2.1
     have hsq := hS.seq_le
     have hln := h.2.len
     have hk2 := ckok_own hS.ck f1 (by rw [hS.rev]; omega) (fun _ => by omega)
     refine (wdown_own w P q s X put edits h.1 i x hx hS.ck h.2.base htl hS.rev hS.who ra rb dd hr (inO x.c) f1 hw.symm f2.symm hchk hup (fun _ => by omega) rfl hk2 _ rfl).mono ?_
     rintro en w' ⟨rfl, hp, ho⟩
     have he : downS (ra, rb, dd) x = (if x.c.wait = true then sayS ⟨inO x.c, x.up, x.told + 1⟩ else ⟨inO x.c, x.up, x.told + 1⟩) := by
      unfold downS ownS
      rw [if_pos hw]
     rw [he] at hD d1
     exact ⟨true, _, rfl, hD, ⟨hp, d1⟩, ho⟩
   · refine (wdown_other w P q s X put edits h.1 i x hx hS.ck h.2.base htl hS.rev hS.who ra rb dd hr (inL x.c dd) hw (d2 hw) rfl).mono ?_
     rintro en w' ⟨rfl, hp, ho⟩
     have he : downS (ra, rb, dd) x = ⟨inL x.c dd, x.up, x.told + 1⟩ := by
      unfold downS
      rw [if_neg hw]
     rw [he] at hD d1
     exact ⟨true, _, rfl, hD, ⟨hp, d1⟩, ho⟩
theorem wedit_I (h : WdI w P q s X put edits e) {i : Nat} (hi : i < X.length) (hput : 0 ≤ put) (hed : 0 ≤ edits) (d : List Pt) (A : Option Addr) (n c : Nat) (hd : RdQ w P A n c d) :
 Calls Try.prog 23 #[.pointer (some ⟨q, 0, none⟩), .int .i64 i, .slice A n c] w fun en w' =>
  (∃ EE : Int, en = .returned (.int .i64 EE) ∧ EE ≠ 0 ∧ WdI w' (grow P w w') q s X put edits e ∧ Only w w' P ∧ ∀ x, X[i]? = some x → ¬ (doE d x.c.text = 0 ∧ edits < 64 ∧ put + (nP (units d) : Int) ≤ 500)) ∨
  (∃ x, en = .returned (.int .i64 0) ∧ X[i]? = some x ∧ (doE d x.c.text = 0 ∧ edits < 64 ∧ put + (nP (units d) : Int) ≤ 500) ∧ WdI w' (grow P w w') q s (X.set i (editS x d)) (put + (nP (units d) : Int)) (edits + 1) (fun k => if k = i then e k + 1 else e k) ∧ Only w w' P) := by
 have hx : X[i]? = some X[i] := List.getElem?_eq_getElem hi
 obtain ⟨x, hxx⟩ : ∃ x, X[i] = x := ⟨_, rfl⟩
 rw [hxx] at hx
 have hS := h.2.seat i x hx
 have hsq := hS.seq_le
 have hln := h.2.len
 have hup : x.c.fly = false → x.up = [] := by
  intro hf
  rcases hS.way with ⟨_, a2, _⟩ | ⟨b1, _⟩ | ⟨c1, c2, _⟩
  · exact a2
  · rw [hf] at b1; cases b1
  · exact c2
 refine (wedit_P w P q s X put edits h.1 i x hx hS.ck hup (fun _ => by omega) ⟨hput, h.2.p500⟩ ⟨hed, h.2.e64⟩ d A n c hd).mono ?_
 rintro en w' (⟨EE, r1, r2, r3, r4, r5⟩ | ⟨r1, r2, r3, r4⟩)
 · refine .inl ⟨EE, r1, r2, ⟨r3, h.2⟩, r4, fun y hy => ?_⟩
   rw [hx] at hy
   have hy := Option.some.inj hy
   subst hy
   exact r5
 · exact .inr ⟨x, r1, hx, r2, ⟨r3, h.2.edit hx r2.1 r2.2.1 r2.2.2⟩, r4⟩
end
structure EvW (put edits : Int) (e : Nat → Nat) (Ev : Sh → List St → Prop) : Prop where
 up : ∀ s X i b s' X', WI s X put edits e → UpR s X i b s' X' → Ev s X → Ev s' X'
 down : ∀ s X i b X', WI s X put edits e → DownR s X i b X' → Ev s X → Ev s X'
theorem UpR.len {s s' : Sh} {X X' : List St} {i : Nat} {b : Bool} (h : UpR s X i b s' X') : X'.length = X.length := by
 cases h with
 | no x hx hu => rfl
 | yes x b d hx hu hE hl => rw [List.length_set]
theorem DownR.len {s : Sh} {X X' : List St} {i : Nat} {b : Bool} (h : DownR s X i b X') : X'.length = X.length := by
 cases h with
 | no x hx ht => rfl
 | yes x hx ht => rw [List.length_set]
theorem UpR.mu {s s' : Sh} {X X' : List St} {i : Nat} {b : Bool} {put edits : Int} {e : Nat → Nat} (hW : WI s X put edits e) (h : UpR s X i b s' X') : muD s' X' < muD s X ∨ (s' = s ∧ X' = X ∧ ∃ x, X[i]? = some x ∧ x.up = []) := by
 cases h with
 | no x hx hu => exact .inr ⟨rfl, rfl, x, hx, hu⟩
 | yes x b d hx hu hE hl => exact .inl (hW.mu_up hx (by rw [hu]; rfl) hl)
theorem DownR.mu {s : Sh} {X X' : List St} {i : Nat} {b : Bool} {put edits : Int} {e : Nat → Nat} (hW : WI s X put edits e) (h : DownR s X i b X') : muD s X' < muD s X ∨ (X' = X ∧ ∃ x, X[i]? = some x ∧ x.told = s.log.revs.length) := by
 cases h with
 | no x hx ht => exact .inr ⟨rfl, x, hx, ht⟩
 | yes x hx ht => exact .inl (hW.mu_down hx ht)
def RndW (M : Nat) (s0 : Sh) (X0 : List St) (s : Sh) (X : List St) (i : Nat) : Prop := muD s X < M ∨ (muD s X ≤ M ∧ s = s0 ∧ X = X0 ∧ ∀ j x, j < i → X[j]? = some x → x.up = [] ∧ s.log.revs.length ≤ x.told)
theorem RndW.next {M : Nat} {s0 s s1 : Sh} {X0 X X1 X2 : List St} {i : Nat} {b b' : Bool} {put edits : Int} {e : Nat → Nat} (h : RndW M s0 X0 s X i) (hW : WI s X put edits e) (hU : UpR s X i b s1 X1) (hW1 : WI s1 X1 put edits e) (hD : DownR s1 X1 i b' X2) : RndW M s0 X0 s1 X2 (i + 1) := by
 have h1 := hU.mu hW
 have h2 := hD.mu hW1
 rcases h with h | ⟨h0, ha, hb, hc⟩
 · left
   rcases h1 with h1 | ⟨rfl, rfl, _⟩ <;> rcases h2 with h2 | ⟨rfl, _⟩ <;> omega
 · rcases h1 with h1 | ⟨rfl, rfl, x, hx, hu⟩
   · left
     rcases h2 with h2 | ⟨rfl, _⟩ <;> omega
   · rcases h2 with h2 | ⟨rfl, y, hy, ht⟩
     · left; omega
     · right
       refine ⟨h0, ha, hb, fun j z hj hz => ?_⟩
       by_cases hji : j = i
       · subst hji
         rw [hx] at hy
         have hy := Option.some.inj hy
         subst hy
         rw [hx] at hz
         have hz := Option.some.inj hz
         subst hz
         exact ⟨hu, by omega⟩
       · exact hc j z (by omega) hz
theorem grow_mono {P : Nat → Prop} {w w1 w2 : World} {k : Nat} (h2 : w1.heap.size ≤ w2.heap.size) (h : grow P w w1 k) : grow P w w2 k := by
 rcases h with h | h
 · exact .inl h
 · exact .inr ⟨h.1, by omega⟩
theorem wsettle_I {w : World} {P : Nat → Prop} {q : Nat} {s : Sh} {X : List St} {put edits : Int} {e : Nat → Nat} (h : WdI w P q s X put edits e) (Ev : Sh → List St → Prop) (hev : EvW put edits e Ev) (h0 : Ev s X) :
 Calls Try.prog 28 #[.pointer (some ⟨q, 0, none⟩)] w fun en w' => en = .returned (.tuple #[]) ∧ ∃ s' X', WdI w' (grow P w w') q s' X' put edits e ∧ calmW s' X' ∧ Ev s' X' ∧ X'.length = X.length ∧ Only w w' P := by
 have HW := Lib.hid (h.mono (P' := grow P w w) fun k _ hk => .inl hk)
 have HE := Lib.hid h0
 have HO : Hid (Only w w P) := Lib.hid (Only.refl _ _)
 have HEV := Lib.hid hev
 obtain ⟨N, hN⟩ : ∃ N, X.length = N := ⟨_, rfl⟩
 have HN : Hid (X.length = N) := Lib.hid hN
 have HN00 := Lib.hid hN
 have hN0 : (0 : Int) ≤ (N : Int) := by omega
 have hN4 : N ≤ 4 := by rw [← hN]; exact h.2.n4
 clear h h0 hev hN
 go_enter Try.func28, Try.ntmps28
 go_upto_region 0 with (fail)
 go_loopw [2] (fun x2 wr => ∃ (s : Sh) (X : List St), Hid (WdI wr (grow P w wr) q s X put edits e) ∧ Hid (Ev s X) ∧ Hid (X.length = N) ∧ Hid (Only w wr P)) (fun _ wr => muWd wr q)
 case atStart => exact ⟨s, X, HW, HE, HN, HO⟩
 case round =>
  clear HW HE HN HO
  obtain ⟨s, X, HW, HE, HN, HO⟩ := hrel
  obtain ⟨W5, hW5⟩ : ∃ W5, W5 = wr := ⟨_, rfl⟩
  have hmu0 : muWd wr q = muD s X := HW.out.1.mu
  have HMU := Lib.hid hmu0
  have hcm : Calls Try.prog 54 #[.pointer (some ⟨q, 0, none⟩)] wr fun e w' => CalmP s X wr e w' := by
   obtain ⟨F, sq, gs, cap, E, sp, hM, _⟩ := HW.out.1
   exact wcalm_any wr F q sq gs cap E sp s X put edits hM HW.out.2.base
  have Hcm := Lib.hid hcm
  clear hcm hmu0
  go_wp2_with fail
  refine Hcm.out.mono ?_
  rintro en w1 ⟨b, rfl, hcal, hb1⟩
  have HW1 := Lib.hid ((HW.out.below hb1).mono (P' := grow P w w1) fun k hk hg => grow_mono hb1.size hg)
  have HO1 := Lib.hid (HO.out.trans (Only.of_below hb1))
  have HCA := Lib.hid hcal
  clear Hcm hcal hb1 HW HO
  cases b with
  | true =>
    go_wp2_with fail
    go_end0
    exact ⟨rfl, s, X, HW1.out, (by have h9 := HCA.out; simpa using h9), HE.out, (by rw [HN.out, HN00.out]), HO1.out⟩
  | false =>
    have hnc : ¬ calmW s X := by have h9 := HCA.out; simpa using h9
    have HNC := Lib.hid hnc
    have q1 : ∃ gs cap, w1.cell? ⟨q, 1, none⟩ = some (.slice (some ⟨gs, 0, none⟩) N cap) ∧ q < w1.heap.size := by
     obtain ⟨F, sq, gs, cap, E, sp, hM, _⟩ := HW1.out.1
     exact ⟨gs, cap, (hM.kq.cell 1).trans (by rw [HN.out]; rfl), hM.kq.lt⟩
    obtain ⟨gs, cap, q1, lq⟩ := q1
    have HRN : Hid (RndW (muD s X) s X s X 0) := Lib.hid (.inr ⟨Nat.le_refl _, rfl, rfl, fun j x hj => absurd hj (Nat.not_lt_zero _)⟩)
    clear HCA hnc
    go_upto_region 2 with (fail)
    clear q1 lq
    go_loopw [2, 11] (fun x2 iv wi => ∃ (i : Nat) (s1 : Sh) (X1 : List St), i ≤ N ∧ iv = .int .i64 i ∧ Hid (WdI wi (grow P w wi) q s1 X1 put edits e) ∧ Hid (Ev s1 X1) ∧ Hid (X1.length = N) ∧ Hid (Only w wi P) ∧ Hid (RndW (muD s X) s X s1 X1 i)) (fun _ iv _ => N - (intOf iv).toNat)
    case atStart => exact ⟨0, s, X, by omega, rfl, HW1, HE, HN, HO1, HRN⟩
    case round =>
     clear HW1 HE HO1 HRN
     obtain ⟨i, s1, X1, hi, rfl, HW1, HE, HN1, HO1, HRN⟩ := hrel
     by_cases hlt : i < N
     · have hi0 : (0 : Int) ≤ (i : Int) := by omega
       have hiN : (i : Int) < (N : Int) := by omega
       have hc_ := wup_I HW1.out (i := i) (by rw [HN1.out]; exact hlt)
       have Hc_ := Lib.hid hc_
       clear hc_
       go_wp2_with fail
       refine Hc_.out.mono ?_
       rintro en w2 ⟨b2, s2, X2, rfl, hU, hW2, hO2⟩
       have HU := Lib.hid hU
       have HW2 := Lib.hid (hW2.mono (P' := grow P w w2) fun k hk hg => grow_grow HO1.out.2.2.2.1 hO2.2.2.2.1 hg)
       have HO2 := Lib.hid (HO1.out.trans_grow hO2)
       have HE2 := Lib.hid (HEV.out.up s1 X1 i b2 s2 X2 HW1.out.2 hU HE.out)
       have HN2 : Hid (X2.length = N) := Lib.hid (by rw [hU.len]; exact HN1.out)
       have HWI1 := Lib.hid HW1.out.2
       clear Hc_ hU hW2 hO2 HW1 HE HO1 HN1
       have hc_ := wdown_I HW2.out (i := i) (by rw [HN2.out]; exact hlt)
       have Hc_ := Lib.hid hc_
       clear hc_
       go_wp2_with fail
       refine Hc_.out.mono ?_
       rintro en w3 ⟨b3, X3, rfl, hD, hW3, hO3⟩
       have HR3 := Lib.hid (HRN.out.next HWI1.out HU.out HW2.out.2 hD)
       have HW3 := Lib.hid (hW3.mono (P' := grow P w w3) fun k hk hg => grow_grow HO2.out.2.2.2.1 hO3.2.2.2.1 hg)
       have HO3 := Lib.hid (HO2.out.trans_grow hO3)
       have HE3 := Lib.hid (HEV.out.down s2 X2 i b3 X3 HW2.out.2 hD HE2.out)
       have HN3 : Hid (X3.length = N) := Lib.hid (by rw [hD.len]; exact HN2.out)
       clear Hc_ hD hW3 hO3 HW2 HE2 HO2 HN2 HU HRN HWI1
       go_wp2_with fail
       go_roundw
       case rel => exact ⟨i + 1, s2, X3, by omega, by go_num, HW3, HE3, HN3, HO3, HR3⟩
       case measure => simp [intOf]; omega
     · obtain rfl : i = N := by omega
       have hlast : muD s1 X1 < muD s X := by
        rcases HRN.out with hr | ⟨hr, hs, hx, hc⟩
        · exact hr
        · refine absurd ?_ HNC.out
          subst hs hx
          intro x hx
          obtain ⟨j, hj, hjx⟩ := List.getElem_of_mem hx
          exact hc j x (by rw [← HN1.out]; exact hj) (by rw [List.getElem?_eq_getElem hj, hjx])
       have HL := Lib.hid hlast
       have hmu2 : muWd wr q = muD s1 X1 := HW1.out.1.mu
       have HM2 := Lib.hid hmu2
       clear hlast hmu2
       go_wp2_with fail
       go_roundw
       case rel => exact ⟨s1, X1, HW1, HE, HN1, HO1⟩
       case measure => rw [HMU.out, HM2.out]; exact HL.out
def nil3 : Sl × Sl × Sl := ((none, 0, 0), (none, 0, 0), (none, 0, 0))
theorem rowW_cons (x : St) (X : List St) (a : Sl × Sl × Sl) (E : List (Sl × Sl × Sl)) : rowW (x :: X) (a :: E) = stc x a ++ rowW X E := rfl
theorem rowW_nil : rowW [] [] = [] := rfl
theorem rowW_snoc (x : St) (a : Sl × Sl × Sl) (X : List St) : ∀ (E : List (Sl × Sl × Sl)), E.length = X.length → rowW (X ++ [x]) (E ++ [a]) = rowW X E ++ stc x a := by
 obtain ⟨M, hM⟩ : ∃ M, stc x a = M := ⟨_, rfl⟩
 induction X with
 | nil =>
   intro E h
   have hE : E = [] := List.eq_nil_of_length_eq_zero h
   rw [hE, List.nil_append, List.nil_append, rowW_cons, rowW_nil, hM, List.append_nil, List.nil_append]
 | cons y X ih =>
   intro E h
   cases E with
   | nil => cases h
   | cons b E =>
     obtain ⟨M2, hM2⟩ : ∃ M2, stc y b = M2 := ⟨_, rfl⟩
     rw [List.cons_append, List.cons_append, rowW_cons, rowW_cons, ih E (Nat.succ.inj h), hM2, List.append_assoc]
def seatsN (k : Nat) : List St := (List.range k).map seat0
theorem rowN (k : Nat) : rowW (seatsN (k + 1)) (List.replicate (k + 1) nil3) = rowW (seatsN k) (List.replicate k nil3) ++ stc (seat0 k) nil3 := by
 unfold seatsN
 rw [List.range_succ, List.map_append, List.replicate_succ', List.map_singleton]
 exact rowW_snoc _ _ _ _ (by rw [List.length_replicate, List.length_map, List.length_range])
theorem info_seat : (Try.prog.info? 118).map (fun i => (i.zero, i.size, i.bytes)) = some (some (.agg #[.int .i64 0, .int .i64 0, .int .i64 0, .string ⟨#[]⟩, .bool false, .slice none 0 0, .bool false, .slice none 0 0, .slice none 0 0, .int .i64 0]), 10, 136) := by kernel_rfl
theorem own_form {w : World} {B size n : Nat} {e : TypeId} {v : Value} {xs : List Value} (h : w.ownsRow B e size v n xs) : ∃ A c, v = .slice A n c := by
 rcases h.2 with ⟨rfl, rfl⟩ | ⟨g, cap, cur, rfl, _⟩
 · exact ⟨_, _, rfl⟩
 · exact ⟨_, _, rfl⟩
theorem own_blk_ne' {w : World} {base g : Nat} {e t : TypeId} {size n : Nat} {v : Value} {xs : List Value} {cs : Array Value} (h : w.ownsRow base e size v n xs) (hg : Blk w g t cs) (hne : e ≠ t) : some g ≠ v.ownBlock := fun hh => own_blk_ne h hg hne hh.symm
theorem wnew_I (n : Nat) (h1 : 1 ≤ n) (h4 : n ≤ 4) (w : World) :
 Calls Try.prog 22 #[.int .i64 n] w fun e w' => ∃ q, e = .returned (.tuple #[.pointer (some ⟨q, 0, none⟩), .int .i64 0]) ∧ WdI w' (fun k => w.heap.size ≤ k ∧ k < w'.heap.size) q shN (seatsN n) 0 0 (fun _ => 0) ∧ Below w.heap.size w w' := by
 obtain ⟨B, hB⟩ : ∃ B, w.heap.size = B := ⟨_, rfl⟩
 have HBw := Lib.hid hB
 have hn1 : (1 : Int) ≤ (n : Int) := by omega
 have hn4 : (n : Int) ≤ 4 := by omega
 have hn1' : decide ((n : Int) < 1) = false := decide_eq_false (by omega)
 have hn4' : decide ((4 : Int) < (n : Int)) = false := decide_eq_false (by omega)
 have hc_ := snew_B w
 rw [hB] at hc_
 have Hc_ := Lib.hid hc_
 clear hc_
 go_enter Try.func22, Try.ntmps22
 go_wp2_with fail
 refine Hc_.out.mono ?_
 rintro e w1 ⟨sq, rfl, hs, hb1⟩
 obtain ⟨Z, hZ⟩ : ∃ Z, w1.heap.size = Z := ⟨_, rfl⟩
 have hsg : ShG w1 (fun k => B ≤ k ∧ k < Z) sq shN none 1 0 tz := by
  obtain ⟨b_, tN_, hh⟩ := hs
  rw [hZ] at hh
  exact ⟨hh.mem, ShI.new⟩
 have kq := Blk.new w1 115 #[.pointer (some ⟨sq, 0, none⟩), .slice none 0 0, .int .i64 0, .int .i64 0]
 have hal := (Below.refl w1.heap.size w1).alloc (Nat.le_refl _) (.cells #[.pointer (some ⟨sq, 0, none⟩), .slice none 0 0, .int .i64 0, .int .i64 0] 115)
 have HG := Lib.hid (hsg.below hal)
 have HB0 : Hid (Below B w (w1.alloc (.cells #[.pointer (some ⟨sq, 0, none⟩), .slice none 0 0, .int .i64 0, .int .i64 0] 115))) := Lib.hid (hb1.trans (hal.mono (by rw [← hB]; exact hb1.size)))
 have hBZ : B ≤ Z := by rw [← hZ, ← hB]; exact hb1.size
 have HBZ := Lib.hid hBZ
 clear Hc_ hs hsg hb1 hal hBZ
 go_upto_region 5 with (fail)
 obtain ⟨U, hU⟩ : ∃ U, w1.alloc (.cells #[.pointer (some ⟨sq, 0, none⟩), .slice none 0 0, .int .i64 0, .int .i64 0] 115) = U := ⟨_, rfl⟩
 have hZU : Z < U.heap.size := by rw [← hU, ← hZ]; simp
 rw [hU] at HG HB0 kq ⊢
 rw [hZ] at kq
 have HK := Lib.hid kq
 have HZU := Lib.hid hZU
 have HOW : Hid (U.ownsRow (Z + 1) 118 10 (.slice none 0 0) 0 (rowW (seatsN 0) (List.replicate 0 nil3))) := Lib.hid (World.ownsRow_nil _ _ _ _)
 clear hU hZ kq hZU
 go_loopw [5, 16] (fun x5 iv wr => ∃ (k : Nat) (A : Option Addr) (c : Nat), k ≤ n ∧ iv = .int .i64 k ∧ Hid (Blk wr Z 115 #[.pointer (some ⟨sq, 0, none⟩), .slice A k c, .int .i64 0, .int .i64 0]) ∧ Hid (wr.ownsRow (Z + 1) 118 10 (.slice A k c) k (rowW (seatsN k) (List.replicate k nil3))) ∧ Hid (ShG wr (fun k => B ≤ k ∧ k < Z) sq shN none 1 0 tz) ∧ Hid (Below B w wr) ∧ Hid (Z < wr.heap.size)) (fun _ iv _ => n - (intOf iv).toNat)
 case atStart => exact ⟨0, none, 0, by omega, rfl, HK, HOW, HG, HB0, HZU⟩
 case round =>
  clear HK HOW HG HB0 HZU
  obtain ⟨k, A, c, hk, rfl, HK, HOW, HG, HB0, HZU⟩ := hrel
  by_cases hlt : k < n
  · have hk0 : (0 : Int) ≤ (k : Int) := by omega
    have hkn : (k : Int) < (n : Int) := by omega
    have hk4 : k ≤ 4 := by omega
    have kq := HK.out.alloc (.cells #[.int .i64 k, .int .i64 0, .int .i64 0, .string ⟨#[]⟩, .bool false, .slice none 0 0, .bool false, .slice none 0 0, .slice none 0 0, .int .i64 0] 118)
    have ks := Blk.new wr 118 #[.int .i64 k, .int .i64 0, .int .i64 0, .string ⟨#[]⟩, .bool false, .slice none 0 0, .bool false, .slice none 0 0, .slice none 0 0, .int .i64 0]
    have hal := (Below.refl wr.heap.size wr).alloc (Nat.le_refl _) (.cells #[.int .i64 k, .int .i64 0, .int .i64 0, .string ⟨#[]⟩, .bool false, .slice none 0 0, .bool false, .slice none 0 0, .slice none 0 0, .int .i64 0] 118)
    have hown := HOW.out.alloc (.cells #[.int .i64 k, .int .i64 0, .int .i64 0, .string ⟨#[]⟩, .bool false, .slice none 0 0, .bool false, .slice none 0 0, .slice none 0 0, .int .i64 0] 118)
    have hGa := HG.out.below hal
    have hBa := HB0.out.trans (hal.mono (by have := HB0.out.size; have := HBw.out; omega))
    have q1 := kq.cell 1
    have q1f := kq.frozen 1
    have lq := kq.lt
    have p1 := HK.out.cell 1
    have lp := HK.out.lt
    have hsz : (wr.alloc (.cells #[.int .i64 k, .int .i64 0, .int .i64 0, .string ⟨#[]⟩, .bool false, .slice none 0 0, .bool false, .slice none 0 0, .slice none 0 0, .int .i64 0] 118)).heap.size = wr.heap.size + 1 := World.size_alloc _ _
    have HKQ := Lib.hid kq
    have HGa := Lib.hid hGa
    have HBa := Lib.hid hBa
    have HSZ := Lib.hid hsz
    obtain ⟨i0, hi, hz0, hz1, hz2⟩ := info_parts info_seat
    have hnews : ∀ j u, (stc (seat0 k) nil3)[j]? = some u → (wr.alloc (.cells #[.int .i64 k, .int .i64 0, .int .i64 0, .string ⟨#[]⟩, .bool false, .slice none 0 0, .bool false, .slice none 0 0, .slice none 0 0, .int .i64 0] 118)).cell? ((⟨wr.heap.size, 0, none⟩ : Addr).add j) = some u := by
     intro j u hj
     rw [add0, ks.cell, show #[.int .i64 k, .int .i64 0, .int .i64 0, .string ⟨#[]⟩, .bool false, .slice none 0 0, .bool false, .slice none 0 0, .slice none 0 0, .int .i64 0] = (stc (seat0 k) nil3).toArray from rfl, List.getElem?_toArray]
     exact hj
    have hones : ∀ u ∈ stc (seat0 k) nil3, u.oneCell' = true := by simp [stc, seat0, nil3, Value.oneCell']
    have hbase : Z + 1 ≤ (wr.alloc (.cells #[.int .i64 k, .int .i64 0, .int .i64 0, .string ⟨#[]⟩, .bool false, .slice none 0 0, .bool false, .slice none 0 0, .slice none 0 0, .int .i64 0] 118)).heap.size := by rw [hsz]; have := HZU.out; omega
    have h63 : k + 1 ≤ maxLen := by simp only [maxLen]; omega
    have HB0s := Lib.hid HB0.out.size
    clear hsz kq ks hal hGa hBa HK HG HB0
    go_upto_region 8 with (first | (at_builtin; refine wpList_append_own _ rfl (.tmp 23) (.tmp 27) 113 rfl (Z + 1) 118 i0 _ 10 136 Try.underlying113 hi hz0 hz1 hz2 rfl (by omega) (.slice A k c) k _ rfl hown ⟨wr.heap.size, 0, none⟩ 1 1 (stc (seat0 k) nil3) rfl rfl hnews hones h63 (by omega) hbase ?_; intro v' w' g1 g2 g3; obtain ⟨A', c', hv'⟩ := own_form g1; subst hv'; have kq2 := HKQ.out.grown g2 (own_blk_ne' hown HKQ.out (by decide)); have q1' := kq2.cell 1; have q1f' := kq2.frozen 1; have lq' := kq2.lt))
    have hs2 := kq2.set_ 1 (.slice A' (k + 1) c')
    have hB0 := HBa.out.trans (below_grown g2 (by rw [HSZ.out]; have := HB0s.out; omega) (fun b hb => by have := own_ge hown b hb; have := HBZ.out; omega))
    have hg2 : ShG w' (fun k => B ≤ k ∧ k < Z) sq shN none 1 0 tz := ⟨HGa.out.mem.only (Only.of_grown g2) (fun b hb e => by have := own_ge hown b e; omega), HGa.out.inv⟩
    have hg3 : ShG (w'.setCell ⟨Z, 1, none⟩ (.slice A' (k + 1) c')) (fun k => B ≤ k ∧ k < Z) sq shN none 1 0 tz := ⟨hg2.mem.only (Only.setSelf _ _ _ _) (fun b hb e => by have := hb.2; omega), hg2.inv⟩
    have ho3 := ownsRow_setCell_below g1 (a := ⟨Z, 1, none⟩) (Nat.lt_succ_self Z) (.slice A' (k + 1) c')
    rw [← rowN] at ho3
    have hb3 := hB0.setCell (p := ⟨Z, 1, none⟩) HBZ.out (.slice A' (k + 1) c')
    go_wp2_with fail
    refine ⟨⟨k + 1, A', c', by omega, ?_, Lib.hid hs2, Lib.hid ho3, Lib.hid hg3, Lib.hid hb3, Lib.hid hs2.lt⟩, ?_⟩
    · rw [Int.natCast_succ]
    · simp only [intOf]
      omega
  · have hkn : k = n := by omega
    subst hkn
    have q1 := HK.out.cell 1
    have q1f := HK.out.frozen 1
    have lq := HK.out.lt
    go_wp2_with fail
    go_ret2
    refine ⟨Z, rfl, ⟨?_, WI.new k h1 h4⟩, by rw [hB]; exact HB0.out⟩
    have hX : (seatsN k).length = k := by rw [seatsN, List.length_map, List.length_range]
    have hEl : (List.replicate k nil3).length = (seatsN k).length := by rw [List.length_replicate, hX]
    have hRL : (rowW (seatsN k) (List.replicate k nil3)).length = k * 10 := by rw [rowW_len _ _ hEl, hX]
    rcases HOW.out.2 with ⟨_, hk0⟩ | ⟨g, cap, cur, hv, hg, hh, hnc, hcm, hsz, htk⟩
    · omega
    · injection hv with hA hk_ hc_
      subst hA
      subst hc_
      obtain ⟨RW, hRW⟩ : ∃ RW, rowW (seatsN k) (List.replicate k nil3) = RW := ⟨_, rfl⟩
      have hcur : cur = (RW ++ cur.toList.drop (k * 10)).toArray := by
       rw [← hRW, ← htk, List.take_append_drop]
      have hE : ∀ (i : Nat) a, (List.replicate k nil3)[i]? = some a → a = nil3 := fun i a ha => by
       have := List.mem_of_getElem? ha
       exact (List.mem_replicate.1 this).2
      have hmm : WdM wr (fun j => B ≤ j ∧ j < Z) Z sq g c (List.replicate k nil3) (cur.toList.drop (k * 10)) shN (seatsN k) 0 0 := by
       refine ⟨by omega, by omega, ?_, ?_, by rw [hX]; exact hnc, hcm, hEl, ?_, ?_, HG.out⟩
       · rw [wdc, hX]
         exact HK.out
       · rw [hRW, ← hcur]
         exact hh
       · intro i x a hx ha
         have := hE i a ha
         subst this
         have hx0 : x = seat0 i := by
          rw [seatsN, List.getElem?_map] at hx
          obtain ⟨y, hy, he⟩ := Option.map_eq_some_iff.1 hx
          have hi : i < k := by have := (List.getElem?_eq_some_iff.1 hy).1; rw [List.length_range] at this; exact this
          rw [List.getElem?_range hi] at hy
          rw [← he, Option.some.inj hy]
         subst hx0
         have hd : DtW wr (fun j => B ≤ j ∧ j < Z) (none, 0, 0) [] := ⟨World.ownsRow_nil _ _ _ _, fun j hj => by cases hj⟩
         exact ⟨hd, hd, Nat.zero_le _, .inl ⟨rfl, rfl, fun hp => absurd hp (by decide)⟩⟩
       · intro i j a b ha hb hij g1 hg1
         have := hE i a ha
         subst this
         cases hg1
      refine ⟨_, sq, g, c, _, _, hmm, fun j hj => ⟨by rw [hB]; exact hj.1, by have := HZU.out; omega⟩, ⟨by rw [hB]; exact HBZ.out, HZU.out⟩, ⟨by rw [hB]; have := HBZ.out; omega, hmm.kg.lt⟩, ?_⟩
      intro i a ha g1 hg1
      have := hE i a ha
      subst this
      cases hg1
end Go.Proofs.Ytokngfinnieccaa
namespace Go.Proofs.Ytokngfinnieccaa
open Go.ChangeShapes Go.WideShapes Go.RowKit Go.Joins Go.Deep
set_option linter.unusedVariables false
set_option linter.unusedSimpArgs false
set_option maxRecDepth 100000
set_option maxHeartbeats 4000000
def slv (s : Sl) : Value := .slice s.1 s.2.1 s.2.2
def RdS (w : World) (B : Nat) (A : Option Addr) (n c : Nat) (ss : List Sl) : Prop := n = ss.length ∧ Rd w B 1 A n c (ss.map slv)
theorem RdS.below {w w' : World} {B n c : Nat} {A : Option Addr} {l : List Sl} (h : RdS w B A n c l) (hb : Below B w w') : RdS w' B A n c l := ⟨h.1, h.2.below hb⟩
theorem RdS.at_ {w : World} {B n c : Nat} {A : Option Addr} {l : List Sl} (h : RdS w B A n c l) {k : Nat} {s : Sl} (hk : l[k]? = some s) :
 ∃ b o, A = some ⟨b, o, none⟩ ∧ b < B ∧ w.cell? ⟨b, o + k, none⟩ = some (.slice s.1 s.2.1 s.2.2) := by
 have hkl : k < l.length := (List.getElem?_eq_some_iff.1 hk).1
 obtain ⟨b, o, e, hb, hc⟩ := h.2.2.2.2 (by rw [h.1]; omega)
 exact ⟨b, o, e, hb, hc k _ (by rw [List.getElem?_map, hk]; rfl)⟩
def RdL (w : World) (B : Nat) (ss : List Sl) (l : List (List Int)) : Prop := ss.length = l.length ∧ ∀ (k : Nat) s x, ss[k]? = some s → l[k]? = some x → RdI w B s.1 s.2.1 s.2.2 x
def RdD (w : World) (B : Nat) (ss : List Sl) (l : List (List Pt)) : Prop := ss.length = l.length ∧ ∀ (k : Nat) s x, ss[k]? = some s → l[k]? = some x → RdP w B s.1 s.2.1 s.2.2 x
def IsRows (w : World) (v : Value) (l : List (List Int)) : Prop := ∃ A n c ss, v = .slice A n c ∧ RdS w w.heap.size A n c ss ∧ RdL w w.heap.size ss l
def IsDeltas (w : World) (v : Value) (l : List (List Pt)) : Prop := ∃ A n c ss, v = .slice A n c ∧ RdS w w.heap.size A n c ss ∧ RdD w w.heap.size ss l
section
variable {H : Type} {enc : TypeId × Value → H} {w : World} {base : Nat} {spare : Nat → Bool} {held : Bool}
theorem read_intsW {fuel : Nat} {v : Value} {x : DataW H × List MemPlace} (h : DataW.trod enc Try.prog w base spare held fuel 33 [v] = some x) : ∃ A n c l, v = .slice A n c ∧ RdI w w.heap.size A n c l := by
 rcases open_ints Try.underlying33 Try.underlying3 (by kernel_rfl) h with ⟨hc, _⟩ | ⟨a, len, cap, zs, hc, _, h1, h2, h3, _, h4, _⟩
 · simp only [List.cons.injEq, and_true] at hc
   exact ⟨_, _, _, [], hc, rfl, Rd.nil _ _ _⟩
 · simp only [List.cons.injEq, and_true] at hc
   have hl : len ≤ zs.length := by rw [h3]; split <;> omega
   have hl2 : (zs.take len).length = len := by rw [List.length_take]; omega
   refine ⟨_, _, _, zs.take len, hc, hl2.symm, rd_of (by omega) h1 h2 (by rw [ic_len, hl2, Nat.mul_one]) fun j u hj => ?_⟩
   have hjl : j < len := by
    rcases Nat.lt_or_ge j (ic (zs.take len)).length with hlt | hge
    · rw [ic_len, hl2] at hlt; exact hlt
    · rw [List.getElem?_eq_none hge] at hj; cases hj
   rw [ic_at _ j (by omega)] at hj
   injection hj with hj
   rw [h4 j (by omega), ← hj]
   simp [List.getD_eq_getElem?_getD, List.getElem?_eq_getElem (show j < zs.length by omega)]
theorem rdS_of {a : Addr} {len cap m : Nat} {ss : List Sl} (hl : ss.length = len) (h0 : 0 < 1) (h1 : len ≤ cap) (h2 : cap ≤ maxLen) (h : ∀ i s, ss[i]? = some s → w.cell? (a.add i) = some (slv s)) : RdS w w.heap.size (some a) len cap ss := by
 refine ⟨hl.symm, rd_of h0 h1 h2 (by rw [List.length_map, hl, Nat.mul_one]) fun j u hj => ?_⟩
 rw [List.getElem?_map] at hj
 obtain ⟨s, hs, e⟩ := Option.map_eq_some_iff.1 hj
 rw [← e]
 exact h j s hs
theorem open_rows_said {r : Reach} {b0 : Nat} {v : Value} {d : DataW H} {p : List MemPlace} (hv : Value.okWide Try.prog w r b0 39 v) (h : DataW.Trod enc Try.prog w base spare held 39 v d p) (_ : ∀ x ∈ p, x.block < w.heap.size)
 (hb : ∀ x ∈ DataW.weights Try.prog 39 d, x ≤ 140737488351232) : ∃ x, IsRows w v x := by
 obtain ⟨A0, n0, c0, rfl⟩ := okWide_slice Try.underlying39 hv
 obtain ⟨fuel, hf⟩ := h
 rcases open_slice1 Try.underlying39 (by kernel_rfl) hf with ⟨hc, _⟩ | ⟨a, len, cap, m, n, V, D, Pl, hc, _, h1, h2, h3, hx, h4⟩
 · have hc := (List.cons.inj hc).1
   exact ⟨[], _, _, _, [], hc, ⟨rfl, Rd.nil _ _ _⟩, rfl, fun k s x h => by cases h⟩
 · have hc := (List.cons.inj hc).1
   have hl : len ≤ m := by rw [h3]; split <;> omega
   have h5 : ∀ i, i < len → ∃ p : Sl × List Int, w.cell? (a.add i) = some (slv p.1) ∧ RdI w w.heap.size p.1.1 p.1.2.1 p.1.2.2 p.2 := by
    intro i hi
    obtain ⟨hcell, ht⟩ := h4 i (by omega)
    obtain ⟨A, n, c, l, e, hr⟩ := read_intsW ht
    exact ⟨((A, n, c), l), by rw [hcell, e]; rfl, hr⟩
   obtain ⟨l, hll, hp⟩ := pick_lt (((none, 0, 0), []) : Sl × List Int) h5
   refine ⟨l.map (·.2), _, _, _, l.map (·.1), hc, rdS_of (m := m) (by rw [List.length_map, hll]) (by decide) h1 h2 fun i s hs => ?_, by simp, fun k s x e1 e2 => ?_⟩
   · rw [List.getElem?_map] at hs
     obtain ⟨y, hy, e⟩ := Option.map_eq_some_iff.1 hs
     obtain ⟨hi, e2⟩ := List.getElem?_eq_some_iff.1 hy
     rw [← e, ← e2]
     exact (hp i hi).1
   · rw [List.getElem?_map] at e1 e2
     obtain ⟨y, hy, e⟩ := Option.map_eq_some_iff.1 e1
     obtain ⟨hi, e3⟩ := List.getElem?_eq_some_iff.1 hy
     rw [hy] at e2
     have e2 := Option.some.inj e2
     rw [← e, ← e2, ← e3]
     exact (hp k hi).2
theorem open_deltas_said {r : Reach} {b0 : Nat} {v : Value} {d : DataW H} {p : List MemPlace} (hv : Value.okWide Try.prog w r b0 40 v) (h : DataW.Trod enc Try.prog w base spare held 40 v d p) (_ : ∀ x ∈ p, x.block < w.heap.size)
 (hb : ∀ x ∈ DataW.weights Try.prog 40 d, x ≤ 140737488351232) : ∃ x, IsDeltas w v x := by
 obtain ⟨A0, n0, c0, rfl⟩ := okWide_slice Try.underlying40 hv
 obtain ⟨fuel, hf⟩ := h
 rcases open_slice1 Try.underlying40 (by kernel_rfl) hf with ⟨hc, _⟩ | ⟨a, len, cap, m, n, V, D, Pl, hc, _, h1, h2, h3, hx, h4⟩
 · have hc := (List.cons.inj hc).1
   exact ⟨[], _, _, _, [], hc, ⟨rfl, Rd.nil _ _ _⟩, rfl, fun k s x h => by cases h⟩
 · have hc := (List.cons.inj hc).1
   have hl : len ≤ m := by rw [h3]; split <;> omega
   have hd : d = .slice ((List.range len).map D) ((List.range (m - len)).map fun j => D (len + j)) := congrArg Prod.fst hx
   have h5 : ∀ i, i < len → ∃ p : Sl × List Pt, w.cell? (a.add i) = some (slv p.1) ∧ RdP w w.heap.size p.1.1 p.1.2.1 p.1.2.2 p.2 := by
    intro i hi
    obtain ⟨hcell, ht⟩ := h4 i (by omega)
    obtain ⟨l, A, n, c, e, hr⟩ := read_parts ht (fun q hq => hb q (by
     rw [hd]
     simp only [DataW.weights, Try.underlying40, List.mem_cons, List.mem_append]
     exact .inr (.inl (weights_all_mem hq (List.mem_map.2 ⟨i, List.mem_range.2 hi, rfl⟩)))))
    exact ⟨((A, n, c), l), by rw [hcell, e]; rfl, hr⟩
   obtain ⟨l, hll, hp⟩ := pick_lt (((none, 0, 0), []) : Sl × List Pt) h5
   refine ⟨l.map (·.2), _, _, _, l.map (·.1), hc, rdS_of (m := m) (by rw [List.length_map, hll]) (by decide) h1 h2 fun i s hs => ?_, by simp, fun k s x e1 e2 => ?_⟩
   · rw [List.getElem?_map] at hs
     obtain ⟨y, hy, e⟩ := Option.map_eq_some_iff.1 hs
     obtain ⟨hi, e2⟩ := List.getElem?_eq_some_iff.1 hy
     rw [← e, ← e2]
     exact (hp i hi).1
   · rw [List.getElem?_map] at e1 e2
     obtain ⟨y, hy, e⟩ := Option.map_eq_some_iff.1 e1
     obtain ⟨hi, e3⟩ := List.getElem?_eq_some_iff.1 hy
     rw [hy] at e2
     have e2 := Option.some.inj e2
     rw [← e, ← e2, ← e3]
     exact (hp k hi).2
end
end Go.Proofs.Ytokngfinnieccaa
namespace Go.Proofs.Ytokngfinnieccaa
open Go.ChangeShapes Go.WideShapes Go.RowKit
set_option linter.unusedVariables false
set_option linter.unusedSimpArgs false
set_option maxRecDepth 100000
set_option maxHeartbeats 4000000
def wi (k : Int) (n : Nat) : Nat := (IntKind.u64.wrap k).toNat % n
theorem wi_lt (k : Int) (n : Nat) (h : 0 < n) : wi k n < n := Nat.mod_lt _ h
theorem within_any (k : Int) (n : Nat) (w : World) (h1 : 0 < n) (h2 : (n : Int) ≤ 1000000000000000000) :
 Calls Try.prog 21 #[.int .i64 k, .int .i64 n] w fun e w' => e = .returned (.int .i64 (wi k n)) ∧ w = w' := by
 go_enter Try.func21, Try.ntmps21
 go_wp2_with fail
 go_ret
 refine ⟨?_, rfl⟩
 have h0 : 0 ≤ IntKind.u64.wrap k := by
  simp only [IntKind.wrap, IntKind.signed, IntKind.bits]
  exact Int.emod_nonneg _ (by decide)
 obtain ⟨x, hx⟩ := Int.eq_ofNat_of_zero_le h0
 have hlt : x % n < n := Nat.mod_lt _ h1
 have e : wrap64 ((IntKind.u64.wrap k).tmod n) = (wi k n : Int) := by
  unfold wi
  rw [hx, Int.toNat_natCast, show (x : Int).tmod n = ((x % n : Nat) : Int) from rfl]
  exact IntWalk.wrap64_in _ ⟨by omega, by omega⟩
 show Ending.returned (.int .i64 (wrap64 ((IntKind.u64.wrap k).tmod n))) = _
 rw [e]
def WdB (w : World) (B q : Nat) (s : Sh) (X : List St) (put edits : Int) (e : Nat → Nat) : Prop := WdI w (fun k => B ≤ k) q s X put edits e
theorem grow_B {B k : Nat} {w w' : World} (hB : B ≤ w.heap.size) (h : grow (fun k => B ≤ k) w w' k) : B ≤ k := by
 rcases h with h | h
 · exact h
 · omega
section
variable {w w' : World} {B q : Nat} {s : Sh} {X : List St} {put edits : Int} {e : Nat → Nat}
theorem WdB.pos (h : WdB w B q s X put edits e) : 0 ≤ put ∧ 0 ≤ edits := by
 have h1 := h.2.byt
 have h2 := h.2.cnt
 constructor <;> omega
theorem WdB.below (h : WdB w B q s X put edits e) (hb : Below w.heap.size w w') : WdB w' B q s X put edits e := WdI.below h hb
theorem only_B (hB : B ≤ w.heap.size) (ho : Only w w' (fun k => B ≤ k)) : Below B w w' := ho.below hB fun _ hk => hk
theorem wnew_B (n : Nat) (h1 : 1 ≤ n) (h4 : n ≤ 4) (w : World) (hB : B ≤ w.heap.size) :
 Calls Try.prog 22 #[.int .i64 n] w fun en w' => ∃ q, en = .returned (.tuple #[.pointer (some ⟨q, 0, none⟩), .int .i64 0]) ∧ WdI w' (fun k => B ≤ k ∧ k < w'.heap.size) q shN (seatsN n) 0 0 (fun _ => 0) ∧ Below w.heap.size w w' := by
 refine (wnew_I n h1 h4 w).mono ?_
 rintro en w' ⟨q, h, hw, hb⟩
 exact ⟨q, h, hw.mono (fun k _ hk => ⟨Nat.le_trans hB hk.1, hk.2⟩), hb⟩
theorem wup_B (h : WdB w B q s X put edits e) (hB : B ≤ w.heap.size) {i : Nat} (hi : i < X.length) :
 Calls Try.prog 26 #[.pointer (some ⟨q, 0, none⟩), .int .i64 i] w fun en w' => ∃ b s' X', en = .returned (.bool b) ∧ UpR s X i b s' X' ∧ WdB w' B q s' X' put edits e ∧ Below B w w' := by
 refine (wup_I h hi).mono ?_
 rintro en w' ⟨b, s', X', h1, h2, h3, h4⟩
 exact ⟨b, s', X', h1, h2, h3.mono fun k _ hk => grow_B hB hk, only_B hB h4⟩
theorem wdown_B (h : WdB w B q s X put edits e) (hB : B ≤ w.heap.size) {i : Nat} (hi : i < X.length) :
 Calls Try.prog 27 #[.pointer (some ⟨q, 0, none⟩), .int .i64 i] w fun en w' => ∃ b X', en = .returned (.bool b) ∧ DownR s X i b X' ∧ WdB w' B q s X' put edits e ∧ Below B w w' := by
 refine (wdown_I h hi).mono ?_
 rintro en w' ⟨b, X', h1, h2, h3, h4⟩
 exact ⟨b, X', h1, h2, h3.mono fun k _ hk => grow_B hB hk, only_B hB h4⟩
theorem wsettle_B (h : WdB w B q s X put edits e) (hB : B ≤ w.heap.size) (Ev : Sh → List St → Prop) (hev : EvW put edits e Ev) (h0 : Ev s X) :
 Calls Try.prog 28 #[.pointer (some ⟨q, 0, none⟩)] w fun en w' => en = .returned (.tuple #[]) ∧ ∃ s' X', WdB w' B q s' X' put edits e ∧ calmW s' X' ∧ Ev s' X' ∧ X'.length = X.length ∧ Below B w w' := by
 refine (wsettle_I h Ev hev h0).mono ?_
 rintro en w' ⟨h1, s', X', h2, h3, h4, h5, h6⟩
 exact ⟨h1, s', X', h2.mono fun k _ hk => grow_B hB hk, h3, h4, h5, only_B hB h6⟩
theorem wedit_B (h : WdB w B q s X put edits e) (hB : B ≤ w.heap.size) {i : Nat} (hi : i < X.length) (d : List Pt) (A : Option Addr) (n c : Nat) (hd : RdP w B A n c d) :
 Calls Try.prog 23 #[.pointer (some ⟨q, 0, none⟩), .int .i64 i, .slice A n c] w fun en w' =>
  (∃ EE : Int, en = .returned (.int .i64 EE) ∧ EE ≠ 0 ∧ WdB w' B q s X put edits e ∧ Below B w w') ∨
  (∃ x, en = .returned (.int .i64 0) ∧ X[i]? = some x ∧ doE d x.c.text = 0 ∧ WdB w' B q s (X.set i (editS x d)) (put + (nP (units d) : Int)) (edits + 1) (fun k => if k = i then e k + 1 else e k) ∧ Below B w w') := by
 obtain ⟨h1, h2⟩ := h.pos
 refine (wedit_I h hi h1 h2 d A n c (RdQ.of hd hB fun k hk => hk)).mono ?_
 rintro en w' (⟨EE, g1, g2, g3, g4, _⟩ | ⟨x, g1, g2, g3, g4, g5⟩)
 · exact .inl ⟨EE, g1, g2, g3.mono fun k _ hk => grow_B hB hk, only_B hB g4⟩
 · exact .inr ⟨x, g1, g2, g3.1, g4.mono fun k _ hk => grow_B hB hk, only_B hB g5⟩
theorem wtext_B (h : WdB w B q s X put edits e) {i : Nat} {x : St} (hx : X[i]? = some x) :
 Calls Try.prog 30 #[.pointer (some ⟨q, 0, none⟩), .int .i64 i] w fun e w' => e = .returned (.tuple #[.string x.c.text, .int .i64 0]) ∧ Below w.heap.size w w' := by
 obtain ⟨F, sq, gs, cap, E, sp, hM, _⟩ := h.1
 exact wtext_any w F q sq gs cap E sp s X put edits hM i x hx
theorem wrevs_B (h : WdB w B q s X put edits e) :
 Calls Try.prog 29 #[.pointer (some ⟨q, 0, none⟩)] w fun e w' => ∃ (sl' : Sl) (ss : List Sl), e = .returned (.slice sl'.1 sl'.2.1 sl'.2.2) ∧ OwnV w' w.heap.size (.slice sl'.1 sl'.2.1 sl'.2.2) ss s.log.revs ∧ Below w.heap.size w w' := by
 obtain ⟨F, sq, gs, cap, E, sp, hM, _⟩ := h.1
 exact wrevs_any w F q sq gs cap E sp s X put edits hM h.2.base
end
end Go.Proofs.Ytokngfinnieccaa
