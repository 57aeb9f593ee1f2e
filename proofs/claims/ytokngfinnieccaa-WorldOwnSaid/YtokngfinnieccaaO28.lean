/- A world that keeps to blocks of its own, and others beside it. Two worlds beside each other: what is done to one leaves the other; a list that an act was given may be spoilt behind it. -/
import Derived.Test.YtokngfinnieccaaO24
import Derived.Test.YtokngfinnieccaaO25
import Derived.Test.YtokngfinnieccaaO26
import Derived.Test.YtokngfinnieccaaO27
import Derived.Test.YtokngfinnieccaaO15
namespace Go.Proofs.Ytokngfinnieccaa
open Go.ChangeShapes Go.WideShapes Go.RowKit
set_option linter.unusedVariables false
set_option linter.unusedSimpArgs false
set_option maxRecDepth 100000
set_option maxHeartbeats 4000000
def Wo (w : World) (P N : Nat → Prop) (q : Nat) (s : Sh) (X : List St) (put edits : Int) (e : Nat → Nat) : Prop :=
 (∃ (Ps F0 F : Nat → Prop) (sq : Nat), WdS w Ps F sq q s X put edits ∧ ShG w F0 sq s none 1 0 tz ∧ (∀ k, F0 k → F k) ∧ (∀ k, F0 k → ¬ Ps k) ∧ (∀ k, Ps k → P k) ∧ (∀ k, F0 k → P k) ∧ ∀ k, N k → F k) ∧ WI s X put edits e
section
variable {w w' : World} {P N S : Nat → Prop} {q : Nat} {s : Sh} {X : List St} {put edits : Int} {e : Nat → Nat}
theorem Wo.pass (h : Wo w P N q s X put edits e) (ho : Only w w' S) (h1 : ∀ k, k < w.heap.size → S k → ¬ P k) (h2 : ∀ k, k < w.heap.size → S k → N k) : Wo w' P (fun k => N k ∨ (w.heap.size ≤ k ∧ k < w'.heap.size)) q s X put edits e := by
 obtain ⟨⟨Ps, F0, F, sq, ⟨gs, cap, E, sp, hM, hq, hg, hu⟩, hs0, hF, hd, hPs, hP0, hN⟩, hI⟩ := h
 have hw := ho.2.2.2.1
 have hflt := hM.flt
 have ho' : Only w w' (fun k => k < w.heap.size ∧ S k) := ho.mono fun k hk hs => ⟨hk, hs⟩
 have hs1 : ShG w' F0 sq s none 1 0 tz := ⟨hs0.mem.only ho' fun k hk hs => h1 k hs.1 hs.2 (hP0 k hk), hs0.inv⟩
 have hnew : ∀ k, k < w.heap.size → (F k ∨ (w.heap.size ≤ k ∧ k < w'.heap.size)) → F k := fun k hk hh => by
  rcases hh with hh | hh
  · exact hh
  · omega
 have hS : ∀ k, (k < w.heap.size ∧ S k) → (F k ∨ (w.heap.size ≤ k ∧ k < w'.heap.size)) ∨ ∃ cs t, Blk w k t cs ∧ t ≠ 88 := fun k hk => .inl (.inl (hN k (h2 k hk.1 hk.2)))
 have hM' : WdM w' (fun k => F k ∨ (w.heap.size ≤ k ∧ k < w'.heap.size)) q sq gs cap E sp s X put edits := by
  refine ⟨fun hh => hM.fq (hnew q hM.kq.lt hh), fun hh => hM.fg (hnew gs hM.kg.lt hh), hM.kq.only ho' (fun hs => h1 q hs.1 hs.2 (hPs q hq)), hM.kg.only ho' (fun hs => h1 gs hs.1 hs.2 (hPs gs hg)), hM.c1, hM.c2, hM.le, fun i x a hx ha => ?_, hM.ub, ⟨hs1.mem.mono (fun k hk => .inl (hF k hk)) (fun k hk => by
   rcases hk with hk | hk
   · have := hflt k hk; omega
   · exact hk.2), hs1.inv⟩⟩
  have hss := hM.ss i x a hx ha
  exact ⟨(hss.s.re hnew).only ho' hS, (hss.h.re hnew).only ho' hS, (hss.u.re hnew).only ho' hS (fun k hk hs => h1 k hs.1 hs.2 (hPs k (hu i a ha k hk)))⟩
 exact ⟨⟨Ps, F0, _, sq, ⟨gs, cap, E, sp, hM', hq, hg, hu⟩, hs1, fun k hk => .inl (hF k hk), hd, hPs, hP0, fun k hk => by
  rcases hk with hk | hk
  · exact .inl (hN k hk)
  · exact .inr hk⟩, hI⟩
theorem Wo.below (h : Wo w P N q s X put edits e) (hb : Below w.heap.size w w') : Wo w' P (fun k => N k ∨ (w.heap.size ≤ k ∧ k < w'.heap.size)) q s X put edits e :=
 h.pass (S := fun _ => False) (Only.of_below hb) (fun _ _ hh => hh.elim) (fun _ _ hh => hh.elim)
theorem Wo.less (h : Wo w P N q s X put edits e) {N' : Nat → Prop} (hN : ∀ k, N' k → N k) : Wo w P N' q s X put edits e := by
 obtain ⟨⟨Ps, F0, F, sq, a1, a2, a3, a4, a5, a6, a7⟩, hI⟩ := h
 exact ⟨⟨Ps, F0, F, sq, a1, a2, a3, a4, a5, a6, fun k hk => a7 k (hN k hk)⟩, hI⟩
theorem Wo.step (h : Wo w P N q s X put edits e) (hb : Below w.heap.size w w') : Wo w' P N q s X put edits e := (h.below hb).less fun k hk => .inl hk
theorem Wo.i (h : Wo w P N q s X put edits e) : WdI w (fun _ => True) q s X put edits e := by
 obtain ⟨⟨Ps, F0, F, sq, a1, _⟩, hI⟩ := h
 exact ⟨a1.toP, hI⟩
theorem Wo.wide (h : Wo w P N q s X put edits e) {P' : Nat → Prop} (hP : ∀ k, P k → P' k) : Wo w P' N q s X put edits e := by
 obtain ⟨⟨Ps, F0, F, sq, a1, a2, a3, a4, a5, a6, a7⟩, hI⟩ := h
 exact ⟨⟨Ps, F0, F, sq, a1, a2, a3, a4, fun k hk => hP k (a5 k hk), fun k hk => hP k (a6 k hk), a7⟩, hI⟩
theorem Wo.seat {Ps F0 F : Nat → Prop} {sq : Nat} {X' : List St} {put' edits' : Int} {e' : Nat → Nat} (a2 : ShG w F0 sq s none 1 0 tz) (a3 : ∀ k, F0 k → F k) (a4 : ∀ k, F0 k → ¬ Ps k) (a5 : ∀ k, Ps k → P k) (a6 : ∀ k, F0 k → P k) (a7 : ∀ k, N k → F k)
 (hp : WdS w' (grow Ps w w') F sq q s X' put' edits') (ho : Only w w' Ps) (hI : WI s X' put' edits' e') : Wo w' (grow P w w') N q s X' put' edits' e' := by
 refine ⟨⟨grow Ps w w', F0, F, sq, hp, ⟨a2.mem.only ho fun k hk hs => a4 k hk hs, a2.inv⟩, a3, fun k hk hh => ?_, fun k hk => hk.imp (a5 k) id, fun k hk => .inl (a6 k hk), a7⟩, hI⟩
 have := a2.mem.lt k hk
 rcases hh with hh | hh
 · exact a4 k hk hh
 · omega
theorem wup_O (h : Wo w P N q s X put edits e) {i : Nat} (hi : i < X.length) :
 Calls Try.prog 26 #[.pointer (some ⟨q, 0, none⟩), .int .i64 i] w fun en w' => ∃ b s' X', en = .returned (.bool b) ∧ UpR s X i b s' X' ∧ Wo w' (grow P w w') N q s' X' put edits e ∧ Only w w' P := by
 have hx : X[i]? = some X[i] := List.getElem?_eq_getElem hi
 obtain ⟨x, hxx⟩ : ∃ x, X[i] = x := ⟨_, rfl⟩
 rw [hxx] at hx
 by_cases hu : x.up = []
 · refine (wupno_P w _ q s X put edits h.i.1 i x hx hu).mono ?_
   rintro en w' ⟨rfl, hb⟩
   exact ⟨false, s, X, rfl, .no x hx hu, (h.step hb).wide fun k hk => .inl hk, Only.of_below hb⟩
 · obtain ⟨b, d, e1, e2, e3, e4, e5⟩ := h.2.up hx hu
   have hd : ∀ p ∈ d, p.2.2.size ≤ 140737488351232 := by
    have hS := h.2.seat i x hx
    obtain ⟨b', d', f1, _, f3, _⟩ := hS.up hu h.2.txr (h.2.bud hx)
    rw [e1] at f1
    have f1 := (List.cons.inj f1).1
    have : d = d' := by
     have := congrArg (fun z : Mg => z.2.2.2) f1
     exact this
    rw [this]
    exact text_good (do_chk f3).1
   obtain ⟨⟨Ps, F0, F, sq, a1, a2, a3, a4, a5, a6, a7⟩, hI⟩ := h
   have a1' := a1.mono (P' := fun k => Ps k ∧ k < w.heap.size) (fun k hk hp => ⟨hp, hk⟩)
   refine (wup_S w _ F0 F sq q s X put edits a1' a2 a3 i x hx b i x.c.seq d e1 hd).mono ?_
   rintro en w' ⟨rfl, hp, h0, ho⟩
   refine ⟨true, _, _, rfl, .yes x b d hx e1 e2 e5, ⟨⟨_, _, _, sq, hp, h0, fun k hk => hk.imp (a3 k) id, ?_, fun k hk => .inl (a5 k hk.1), fun k hk => hk.imp (a6 k) id, fun k hk => .inl (a7 k hk)⟩, e4⟩, ho.mono fun k _ hk => by
    rcases hk with hk | hk
    · exact a5 k hk.1
    · exact a6 k hk⟩
   intro k hk hk2
   rcases hk with hk | hk
   · exact a4 k hk hk2.1
   · have := hk2.2
     omega
theorem wdown_O (h : Wo w P N q s X put edits e) {i : Nat} (hi : i < X.length) :
 Calls Try.prog 27 #[.pointer (some ⟨q, 0, none⟩), .int .i64 i] w fun en w' => ∃ b X', en = .returned (.bool b) ∧ DownR s X i b X' ∧ Wo w' (grow P w w') N q s X' put edits e ∧ Only w w' P := by
 have hx : X[i]? = some X[i] := List.getElem?_eq_getElem hi
 obtain ⟨x, hxx⟩ : ∃ x, X[i] = x := ⟨_, rfl⟩
 rw [hxx] at hx
 have hS := h.2.seat i x hx
 by_cases ht : x.told = s.log.revs.length
 · refine (wdownno_P w _ q s X put edits h.i.1 i x hx h.2.base ht).mono ?_
   rintro en w' ⟨rfl, hb⟩
   exact ⟨false, X, rfl, .no x hx ht, (h.step hb).wide fun k hk => .inl hk, Only.of_below hb⟩
 · have htl : x.told < s.log.revs.length := by have := hS.told; omega
   obtain ⟨d1, d2, d3, d4⟩ := h.2.down hx htl
   have hD := DownR.yes (s := s) (X := X) (i := i) x hx htl
   obtain ⟨⟨ra, rb, dd⟩, hr⟩ : ∃ r, s.log.revs[x.told] = r := ⟨_, rfl⟩
   rw [hr] at d1 d2 d3 d4 hD
   obtain ⟨⟨Ps, F0, F, sq, a1, a2, a3, a4, a5, a6, a7⟩, hI⟩ := h
   have h : Wo w P N q s X put edits e := ⟨⟨Ps, F0, F, sq, a1, a2, a3, a4, a5, a6, a7⟩, hI⟩
   by_cases hw : ra = x.c.who
   · obtain ⟨f1, f2, f3⟩ := d3 hw
     simp only at f2 f3
     have hchk : chk dd = 0 := by rw [f3]; exact (hS.ck.sk f1).1
     have hup : x.up = [] := (hS.own htl (by rw [hr]; exact hw.trans hS.who) h.2.txr h.2.len).2.2.1
     have hsq := hS.seq_le
     have hln := h.2.len
     have hk2 := ckok_own hS.ck f1 (by rw [hS.rev]; omega) (fun _ => by omega)
     refine (wdown_own_S w Ps F sq q s X put edits a1 i x hx hS.ck h.2.base htl hS.rev hS.who ra rb dd hr (inO x.c) f1 hw.symm f2.symm hchk hup (fun _ => by omega) rfl hk2 _ rfl).mono ?_
     rintro en w' ⟨rfl, hp, ho⟩
     have he : downS (ra, rb, dd) x = (if x.c.wait = true then sayS ⟨inO x.c, x.up, x.told + 1⟩ else ⟨inO x.c, x.up, x.told + 1⟩) := by
      unfold downS ownS
      rw [if_pos hw]
     rw [he] at hD d1
     exact ⟨true, _, rfl, hD, Wo.seat a2 a3 a4 a5 a6 a7 hp ho d1, ho.mono fun k _ hk => a5 k hk⟩
   · refine (wdown_other_S w Ps F sq q s X put edits a1 i x hx hS.ck h.2.base htl hS.rev hS.who ra rb dd hr (inL x.c dd) hw (d2 hw) rfl).mono ?_
     rintro en w' ⟨rfl, hp, ho⟩
     have he : downS (ra, rb, dd) x = ⟨inL x.c dd, x.up, x.told + 1⟩ := by
      unfold downS
      rw [if_neg hw]
     rw [he] at hD d1
     exact ⟨true, _, rfl, hD, Wo.seat a2 a3 a4 a5 a6 a7 hp ho d1, ho.mono fun k _ hk => a5 k hk⟩
theorem wedit_O (h : Wo w P N q s X put edits e) {i : Nat} (hi : i < X.length) (hput : 0 ≤ put) (hed : 0 ≤ edits) (d : List Pt) (A : Option Addr) (n c : Nat) (hd : RdQ w P A n c d) :
 Calls Try.prog 23 #[.pointer (some ⟨q, 0, none⟩), .int .i64 i, .slice A n c] w fun en w' =>
  (∃ EE : Int, en = .returned (.int .i64 EE) ∧ EE ≠ 0 ∧ Wo w' (grow P w w') N q s X put edits e ∧ Only w w' P ∧ ∀ x, X[i]? = some x → ¬ (doE d x.c.text = 0 ∧ edits < 64 ∧ put + (nP (units d) : Int) ≤ 500)) ∨
  (∃ x, en = .returned (.int .i64 0) ∧ X[i]? = some x ∧ (doE d x.c.text = 0 ∧ edits < 64 ∧ put + (nP (units d) : Int) ≤ 500) ∧ Wo w' (grow P w w') N q s (X.set i (editS x d)) (put + (nP (units d) : Int)) (edits + 1) (fun k => if k = i then e k + 1 else e k) ∧ Only w w' P) := by
 have hx : X[i]? = some X[i] := List.getElem?_eq_getElem hi
 obtain ⟨x, hxx⟩ : ∃ x, X[i] = x := ⟨_, rfl⟩
 rw [hxx] at hx
 have hS := h.2.seat i x hx
 have hsq := hS.seq_le
 have hln := h.2.len
 have hup : x.c.fly = false → x.up = [] := by
  intro hf
  rcases hS.way with ⟨_, a2, _⟩ | ⟨b1, _⟩ | ⟨c1, c2, _⟩
  · exact a2
  · rw [hf] at b1; cases b1
  · exact c2
 obtain ⟨⟨Ps, F0, F, sq, a1, a2, a3, a4, a5, a6, a7⟩, hI⟩ := h
 have h : Wo w P N q s X put edits e := ⟨⟨Ps, F0, F, sq, a1, a2, a3, a4, a5, a6, a7⟩, hI⟩
 refine (wedit_S w Ps F sq q s X put edits a1 i x hx hS.ck hup (fun _ => by omega) ⟨hput, h.2.p500⟩ ⟨hed, h.2.e64⟩ d A n c ⟨hd.1, fun ad h1 h2 h3 => hd.2 ad h1 h2 (a5 _ h3)⟩).mono ?_
 rintro en w' (⟨EE, r1, r2, r3, r4, r5⟩ | ⟨r1, r2, r3, r4⟩)
 · refine .inl ⟨EE, r1, r2, Wo.seat a2 a3 a4 a5 a6 a7 r3 r4 h.2, r4.mono fun k _ hk => a5 k hk, fun y hy => ?_⟩
   rw [hx] at hy
   have hy := Option.some.inj hy
   subst hy
   exact r5
 · exact .inr ⟨x, r1, hx, r2, Wo.seat a2 a3 a4 a5 a6 a7 r3 r4 (h.2.edit hx r2.1 r2.2.1 r2.2.2), r4.mono fun k _ hk => a5 k hk⟩
theorem Wo.client (h : Wo w P N q s X put edits e) {i : Nat} {x : St} (hx : X[i]? = some x) :
 Calls Try.prog 57 #[.pointer (some ⟨q, 0, none⟩), .int .i64 i] w fun e w' => ∃ A1 n1 c1 A2 n2 c2, e = .returned (.tuple #[clv x.c (A1, n1, c1) (A2, n2, c2), .int .i64 0]) ∧ OwnP w' w.heap.size (.slice A1 n1 c1) x.c.sent ∧ OwnP w' w.heap.size (.slice A2 n2 c2) x.c.held ∧ Below w.heap.size w w' := by
 obtain ⟨⟨Ps, F0, F, sq, ⟨gs, cap, E, sp, hM, _⟩, _⟩, hI⟩ := h
 exact wclient_any w F q sq gs cap E sp s X put edits hM i x hx (hI.seat i x hx).ck
theorem Wo.revs (h : Wo w P N q s X put edits e) :
 Calls Try.prog 29 #[.pointer (some ⟨q, 0, none⟩)] w fun e w' => ∃ (sl' : Sl) (ss : List Sl), e = .returned (.slice sl'.1 sl'.2.1 sl'.2.2) ∧ OwnV w' w.heap.size (.slice sl'.1 sl'.2.1 sl'.2.2) ss s.log.revs ∧ Below w.heap.size w w' := by
 obtain ⟨⟨Ps, F0, F, sq, ⟨gs, cap, E, sp, hM, _⟩, _⟩, hI⟩ := h
 exact wrevs_any w F q sq gs cap E sp s X put edits hM hI.base
end
def ActD (k i : Nat) (d : List Pt) (s : Sh) (X : List St) (put edits : Int) (e : Nat → Nat) (s' : Sh) (X' : List St) (put' edits' : Int) (e' : Nat → Nat) : Prop :=
 (k = 0 ∧ s' = s ∧ X' = X ∧ put' = put ∧ edits' = edits ∧ e' = e ∧ ∀ x, X[i]? = some x → ¬ (doE d x.c.text = 0 ∧ edits < 64 ∧ put + (nP (units d) : Int) ≤ 500)) ∨
 (k = 0 ∧ s' = s ∧ ∃ x, X[i]? = some x ∧ (doE d x.c.text = 0 ∧ edits < 64 ∧ put + (nP (units d) : Int) ≤ 500) ∧ X' = X.set i (editS x d) ∧ put' = put + (nP (units d) : Int) ∧ edits' = edits + 1 ∧ e' = fun k => if k = i then e k + 1 else e k) ∨
 (k = 1 ∧ put' = put ∧ edits' = edits ∧ e' = e ∧ ∃ b, UpR s X i b s' X') ∨
 (k = 2 ∧ put' = put ∧ edits' = edits ∧ e' = e ∧ s' = s ∧ ∃ b, DownR s X i b X')
theorem UpR.one {s s1 s2 : Sh} {X X1 X2 : List St} {i : Nat} {b1 b2 : Bool} (h1 : UpR s X i b1 s1 X1) (h2 : UpR s X i b2 s2 X2) : s1 = s2 ∧ X1 = X2 := by
 cases h1 with
 | no x hx hu =>
   cases h2 with
   | no y hy hv => exact ⟨rfl, rfl⟩
   | yes y b d hy hv hE hl =>
     rw [hx] at hy
     have hy := Option.some.inj hy
     subst hy
     rw [hu] at hv
     cases hv
 | yes x b d hx hu hE hl =>
   cases h2 with
   | no y hy hv =>
     rw [hx] at hy
     have hy := Option.some.inj hy
     subst hy
     rw [hu] at hv
     cases hv
   | yes y b' d' hy hv hE' hl' =>
     rw [hx] at hy
     have hy := Option.some.inj hy
     subst hy
     rw [hu] at hv
     have hv := (List.cons.inj hv).1
     have hb : b = b' := congrArg (fun z : Mg => z.1) hv
     have hd : d = d' := congrArg (fun z : Mg => z.2.2.2) hv
     subst hb hd
     exact ⟨rfl, rfl⟩
theorem DownR.one {s : Sh} {X X1 X2 : List St} {i : Nat} {b1 b2 : Bool} (h1 : DownR s X i b1 X1) (h2 : DownR s X i b2 X2) : X1 = X2 := by
 cases h1 with
 | no x hx hu =>
   cases h2 with
   | no y hy hv => rfl
   | yes y hy hv =>
     rw [hx] at hy
     have hy := Option.some.inj hy
     subst hy
     omega
 | yes x hx hu =>
   cases h2 with
   | no y hy hv =>
     rw [hx] at hy
     have hy := Option.some.inj hy
     subst hy
     omega
   | yes y hy hv =>
     rw [hx] at hy
     have hy := Option.some.inj hy
     subst hy
     rfl
theorem ActD.one {k i : Nat} {d : List Pt} {s s1 s2 : Sh} {X X1 X2 : List St} {put edits put1 edits1 put2 edits2 : Int} {e e1 e2 : Nat → Nat} (h1 : ActD k i d s X put edits e s1 X1 put1 edits1 e1) (h2 : ActD k i d s X put edits e s2 X2 put2 edits2 e2) : s1 = s2 ∧ X1 = X2 ∧ put1 = put2 ∧ edits1 = edits2 ∧ e1 = e2 := by
 rcases h1 with ⟨rfl, rfl, rfl, rfl, rfl, rfl, a7⟩ | ⟨rfl, rfl, x, a3, a4, rfl, rfl, rfl, rfl⟩ | ⟨rfl, rfl, rfl, rfl, b, a5⟩ | ⟨rfl, rfl, rfl, rfl, rfl, b, a5⟩
 · rcases h2 with ⟨_, rfl, rfl, rfl, rfl, rfl, b7⟩ | ⟨_, _, y, b3, b4, _⟩ | ⟨hk, _⟩ | ⟨hk, _⟩
   · exact ⟨rfl, rfl, rfl, rfl, rfl⟩
   · exact absurd b4 (a7 y b3)
   · omega
   · omega
 · rcases h2 with ⟨_, _, _, _, _, _, b7⟩ | ⟨_, rfl, y, b3, b4, rfl, rfl, rfl, rfl⟩ | ⟨hk, _⟩ | ⟨hk, _⟩
   · exact absurd a4 (b7 x a3)
   · rw [a3] at b3
     have b3 := Option.some.inj b3
     subst b3
     exact ⟨rfl, rfl, rfl, rfl, rfl⟩
   · omega
   · omega
 · rcases h2 with ⟨hk, _⟩ | ⟨hk, _⟩ | ⟨_, rfl, rfl, rfl, b', b5⟩ | ⟨hk, _⟩
   · omega
   · omega
   · obtain ⟨r1, r2⟩ := a5.one b5
     exact ⟨r1, r2, rfl, rfl, rfl⟩
   · omega
 · rcases h2 with ⟨hk, _⟩ | ⟨hk, _⟩ | ⟨hk, _⟩ | ⟨_, rfl, rfl, rfl, rfl, b', b5⟩
   · omega
   · omega
   · omega
   · exact ⟨rfl, a5.one b5, rfl, rfl, rfl⟩
theorem ActD.len {k i : Nat} {d : List Pt} {s s' : Sh} {X X' : List St} {put edits put' edits' : Int} {e e' : Nat → Nat} (h : ActD k i d s X put edits e s' X' put' edits' e') : X'.length = X.length := by
 rcases h with ⟨_, _, rfl, _⟩ | ⟨_, _, x, _, _, rfl, _⟩ | ⟨_, _, _, _, b, hu⟩ | ⟨_, _, _, _, _, b, hd⟩
 · rfl
 · rw [List.length_set]
 · exact hu.len
 · exact hd.len
theorem act_O {w : World} {P N : Nat → Prop} {B q : Nat} {s : Sh} {X : List St} {put edits : Int} {e : Nat → Nat} (h : Wo w P N q s X put edits e) (hB : B ≤ w.heap.size) (cs : List Int) (Ac : Option Addr) (nc cc : Nat) (hc : RdI w B Ac nc cc cs) (d : List Pt) (A : Option Addr) (n cp : Nat) (hd : RdQ w P A n cp d) :
 Calls Try.prog 53 #[.pointer (some ⟨q, 0, none⟩), .int .i64 X.length, .slice Ac nc cc, .slice A n cp] w fun en w' => en = .returned (.tuple #[]) ∧ ∃ s' X' put' edits' e', ActD (kOf cs) (iOf X.length cs) d s X put edits e s' X' put' edits' e' ∧ Wo w' (grow P w w') N q s' X' put' edits' e' ∧ Only w w' P := by
 obtain ⟨hp1, hp2⟩ := WdB.pos (B := 0) (WdI.mono h.i fun k _ _ => Nat.zero_le k)
 obtain ⟨N, hN⟩ : ∃ N, X.length = N := ⟨_, rfl⟩
 have hn1 := h.2.n1
 have hn4 := h.2.n4
 rw [hN] at hn1 hn4 ⊢
 match cs, hc with
 | [], hc =>
   obtain rfl : nc = 0 := hc.1
   have hI : 0 < X.length := by omega
   go_enter Try.func53, Try.ntmps53
   have Hc_ := Lib.hid (wedit_O h (i := 0) hI hp1 hp2 d A n cp hd)
   go_wp2_with fail
   refine Hc_.out.mono ?_
   rintro en w' (⟨EE, rfl, g2, g3, g4, g6⟩ | ⟨x, rfl, g2, g3, g4, g5⟩)
   · go_wp2_with fail
     go_end0
     exact ⟨rfl, _, _, _, _, _, .inl ⟨rfl, rfl, rfl, rfl, rfl, rfl, g6⟩, g3, g4⟩
   · go_wp2_with fail
     go_end0
     exact ⟨rfl, _, _, _, _, _, .inr (.inl ⟨rfl, rfl, x, g2, g3, rfl, rfl, rfl, rfl⟩), g4, g5⟩
 | [a], hc =>
   obtain rfl : nc = 1 := hc.1
   obtain ⟨b0, o0, hAc, hb0, d0⟩ := hc.at_ 0 (by omega)
   subst hAc
   have hI : 0 < X.length := by omega
   simp only [List.getElem_cons_zero, Nat.add_zero] at d0
   go_enter Try.func53, Try.ntmps53
   have hk3 := wi_lt a 3 (by decide)
   obtain ⟨K, hK⟩ : ∃ K, wi a 3 = K := ⟨_, rfl⟩
   have Hw3 := Lib.hid (within_any a 3 w (by decide) (by decide))
   rw [hK] at hk3 Hw3
   have HK := Lib.hid hK
   clear hK
   rcases (show K = 0 ∨ K = 1 ∨ K = 2 by omega) with hk0 | hk0 | hk0
   · subst hk0
     go_wp2_with fail
     refine Hw3.out.mono ?_
     rintro en w9 ⟨rfl, rfl⟩
     clear Hw3
     have Hc_ := Lib.hid (wedit_O h (i := 0) hI hp1 hp2 d A n cp hd)
     go_wp2_with fail
     refine Hc_.out.mono ?_
     rintro en w' (⟨EE, rfl, g2, g3, g4, g6⟩ | ⟨x, rfl, g2, g3, g4, g5⟩)
     · go_wp2_with fail
       go_end0
       exact ⟨rfl, _, _, _, _, _, .inl ⟨HK.out, rfl, rfl, rfl, rfl, rfl, g6⟩, g3, g4⟩
     · go_wp2_with fail
       go_end0
       exact ⟨rfl, _, _, _, _, _, .inr (.inl ⟨HK.out, rfl, x, g2, g3, rfl, rfl, rfl, rfl⟩), g4, g5⟩
   · subst hk0
     go_wp2_with fail
     refine Hw3.out.mono ?_
     rintro en w9 ⟨rfl, rfl⟩
     clear Hw3
     have Hc_ := Lib.hid (wup_O h (i := 0) hI)
     go_wp2_with fail
     refine Hc_.out.mono ?_
     rintro en w' ⟨b, s', X', rfl, g2, g3, g4⟩
     go_wp2_with fail
     go_end0
     exact ⟨rfl, _, _, _, _, _, .inr (.inr (.inl ⟨HK.out, rfl, rfl, rfl, b, g2⟩)), g3, g4⟩
   · subst hk0
     go_wp2_with fail
     refine Hw3.out.mono ?_
     rintro en w9 ⟨rfl, rfl⟩
     clear Hw3
     have Hc_ := Lib.hid (wdown_O h (i := 0) hI)
     go_wp2_with fail
     refine Hc_.out.mono ?_
     rintro en w' ⟨b, X', rfl, g2, g3, g4⟩
     go_wp2_with fail
     go_end0
     exact ⟨rfl, _, _, _, _, _, .inr (.inr (.inr ⟨HK.out, rfl, rfl, rfl, rfl, b, g2⟩)), g3, g4⟩
 | a :: b :: r, hc =>
   obtain rfl : nc = r.length + 2 := hc.1
   obtain ⟨b0, o0, hAc, hb0, d0⟩ := hc.at_ 0 (by omega)
   obtain ⟨b1, o1, hAc1, hb1, d1⟩ := hc.at_ 1 (by omega)
   rw [hAc] at hAc1
   have hAc1 := Option.some.inj hAc1
   injection hAc1 with e1 e2 e3
   subst e1 e2
   subst hAc
   simp only [List.getElem_cons_zero, List.getElem_cons_succ, Nat.add_zero] at d0 d1
   have hrl : (1 : Int) < ((r.length + 2 : Nat) : Int) := by omega
   have hrl0 : (0 : Int) < ((r.length + 2 : Nat) : Int) := by omega
   have hI : wi b N < X.length := by rw [hN]; exact wi_lt b N (by omega)
   obtain ⟨I, hII⟩ : ∃ I, wi b N = I := ⟨_, rfl⟩
   have Hw := Lib.hid (within_any b N w (by omega) (by omega))
   rw [hII] at hI Hw
   have hIO : iOf N (a :: b :: r) = I := hII
   rw [hIO]
   go_enter Try.func53, Try.ntmps53
   go_wp2_with fail
   refine Hw.out.mono ?_
   rintro en w9 ⟨rfl, rfl⟩
   clear Hw
   have hk3 := wi_lt a 3 (by decide)
   obtain ⟨K, hK⟩ : ∃ K, wi a 3 = K := ⟨_, rfl⟩
   have Hw3 := Lib.hid (within_any a 3 w (by decide) (by decide))
   rw [hK] at hk3 Hw3
   have HK := Lib.hid hK
   clear hK
   rcases (show K = 0 ∨ K = 1 ∨ K = 2 by omega) with hk0 | hk0 | hk0
   · subst hk0
     go_wp2_with fail
     refine Hw3.out.mono ?_
     rintro en w9 ⟨rfl, rfl⟩
     clear Hw3
     have Hc_ := Lib.hid (wedit_O h (i := I) hI hp1 hp2 d A n cp hd)
     go_wp2_with fail
     refine Hc_.out.mono ?_
     rintro en w' (⟨EE, rfl, g2, g3, g4, g6⟩ | ⟨x, rfl, g2, g3, g4, g5⟩)
     · go_wp2_with fail
       go_end0
       exact ⟨rfl, _, _, _, _, _, .inl ⟨HK.out, rfl, rfl, rfl, rfl, rfl, g6⟩, g3, g4⟩
     · go_wp2_with fail
       go_end0
       exact ⟨rfl, _, _, _, _, _, .inr (.inl ⟨HK.out, rfl, x, g2, g3, rfl, rfl, rfl, rfl⟩), g4, g5⟩
   · subst hk0
     go_wp2_with fail
     refine Hw3.out.mono ?_
     rintro en w9 ⟨rfl, rfl⟩
     clear Hw3
     have Hc_ := Lib.hid (wup_O h (i := I) hI)
     go_wp2_with fail
     refine Hc_.out.mono ?_
     rintro en w' ⟨b, s', X', rfl, g2, g3, g4⟩
     go_wp2_with fail
     go_end0
     exact ⟨rfl, _, _, _, _, _, .inr (.inr (.inl ⟨HK.out, rfl, rfl, rfl, b, g2⟩)), g3, g4⟩
   · subst hk0
     go_wp2_with fail
     refine Hw3.out.mono ?_
     rintro en w9 ⟨rfl, rfl⟩
     clear Hw3
     have Hc_ := Lib.hid (wdown_O h (i := I) hI)
     go_wp2_with fail
     refine Hc_.out.mono ?_
     rintro en w' ⟨b, X', rfl, g2, g3, g4⟩
     go_wp2_with fail
     go_end0
     exact ⟨rfl, _, _, _, _, _, .inr (.inr (.inr ⟨HK.out, rfl, rfl, rfl, rfl, b, g2⟩)), g3, g4⟩
structure Ws where
 s : Sh
 X : List St
 put : Int
 edits : Int
 e : Nat → Nat
def TWo (w : World) (B q1 q2 : Nat) (a b : Ws) : Prop :=
 ∃ P1 N1 P2 N2 : Nat → Prop, Wo w P1 N1 q1 a.s a.X a.put a.edits a.e ∧ Wo w P2 N2 q2 b.s b.X b.put b.edits b.e ∧ (∀ k, P1 k → B ≤ k ∧ k < w.heap.size ∧ N2 k) ∧ (∀ k, P2 k → B ≤ k ∧ k < w.heap.size ∧ N1 k) ∧ ∀ k, P1 k → ¬ P2 k
section
variable {w w' : World} {B q1 q2 : Nat} {a b : Ws}
theorem TWo.swap (h : TWo w B q1 q2 a b) : TWo w B q2 q1 b a := by
 obtain ⟨P1, N1, P2, N2, h1, h2, h3, h4, h5⟩ := h
 exact ⟨P2, N2, P1, N1, h2, h1, h4, h3, fun k hk hh => h5 k hh hk⟩
theorem TWo.below (h : TWo w B q1 q2 a b) (hb : Below w.heap.size w w') : TWo w' B q1 q2 a b := by
 obtain ⟨P1, N1, P2, N2, h1, h2, h3, h4, h5⟩ := h
 have hs := hb.size
 exact ⟨P1, N1, P2, N2, h1.step hb, h2.step hb, fun k hk => ⟨(h3 k hk).1, by have := (h3 k hk).2.1; omega, (h3 k hk).2.2⟩, fun k hk => ⟨(h4 k hk).1, by have := (h4 k hk).2.1; omega, (h4 k hk).2.2⟩, h5⟩
theorem TWo.done {P1 N1 P2 N2 : Nat → Prop} {a' : Ws} (h2 : Wo w P2 N2 q2 b.s b.X b.put b.edits b.e) (h3 : ∀ k, P1 k → B ≤ k ∧ k < w.heap.size ∧ N2 k) (h4 : ∀ k, P2 k → B ≤ k ∧ k < w.heap.size ∧ N1 k) (h5 : ∀ k, P1 k → ¬ P2 k) (hB : B ≤ w.heap.size)
 (h1 : Wo w' (grow P1 w w') N1 q1 a'.s a'.X a'.put a'.edits a'.e) (ho : Only w w' P1) : TWo w' B q1 q2 a' b := by
 have hs := ho.2.2.2.1
 refine ⟨_, N1, P2, _, h1, h2.pass ho (fun k _ hk => h5 k hk) (fun k _ hk => (h3 k hk).2.2), fun k hk => ?_, fun k hk => ⟨(h4 k hk).1, by have := (h4 k hk).2.1; omega, (h4 k hk).2.2⟩, fun k hk hh => ?_⟩
 · rcases hk with hk | hk
   · exact ⟨(h3 k hk).1, by have := (h3 k hk).2.1; omega, .inl (h3 k hk).2.2⟩
   · exact ⟨by omega, hk.2, .inr hk⟩
 · rcases hk with hk | hk
   · exact h5 k hk hh
   · have := (h4 k hh).2.1
     omega
theorem TWo.le (h : TWo w B q1 q2 a b) : B ≤ w.heap.size := by
 obtain ⟨P1, N1, P2, N2, ⟨⟨Ps, F0, F, sq, ⟨gs, cap, E, sp, hM, hq, _⟩, _, _, _, hPs, _⟩, _⟩, h2, h3, h4, h5⟩ := h
 have := h3 q1 (hPs q1 hq)
 omega
theorem two_act (h : TWo w B q1 q2 a b) (cs : List Int) (Ac : Option Addr) (nc cc : Nat) (hc : RdI w B Ac nc cc cs) (d : List Pt) (A : Option Addr) (n cp : Nat) (hd : RdP w B A n cp d) :
 Calls Try.prog 53 #[.pointer (some ⟨q1, 0, none⟩), .int .i64 a.X.length, .slice Ac nc cc, .slice A n cp] w fun en w' => en = .returned (.tuple #[]) ∧ ∃ a' : Ws, ActD (kOf cs) (iOf a.X.length cs) d a.s a.X a.put a.edits a.e a'.s a'.X a'.put a'.edits a'.e ∧ TWo w' B q1 q2 a' b ∧ Below B w w' := by
 have hB := h.le
 obtain ⟨P1, N1, P2, N2, h1, h2, h3, h4, h5⟩ := h
 refine (act_O h1 hB cs Ac nc cc hc d A n cp (RdQ.of hd hB fun k hk => (h3 k hk).1)).mono ?_
 rintro en w' ⟨rfl, s', X', put', edits', e', r1, r2, r3⟩
 exact ⟨rfl, ⟨s', X', put', edits', e'⟩, r1, TWo.done h2 h3 h4 h5 hB r2 r3, r3.below hB fun k hk => (h3 k hk).1⟩
theorem two_act_own {w0 : World} (h : TWo w0 B q1 q2 a b) (hb : Below w0.heap.size w0 w) (cs : List Int) (Ac : Option Addr) (nc cc : Nat) (hc : RdI w B Ac nc cc cs) (d : List Pt) (A : Option Addr) (n cp : Nat) (hown : OwnP w w0.heap.size (.slice A n cp) d) (ht : ∀ p ∈ d, p.2.2.size ≤ 140737488351232) :
 Calls Try.prog 53 #[.pointer (some ⟨q1, 0, none⟩), .int .i64 a.X.length, .slice Ac nc cc, .slice A n cp] w fun en w' => en = .returned (.tuple #[]) ∧ ∃ a' : Ws, ActD (kOf cs) (iOf a.X.length cs) d a.s a.X a.put a.edits a.e a'.s a'.X a'.put a'.edits a'.e ∧ OwnP w' w0.heap.size (.slice A n cp) d ∧ (∀ w4, Only w' w4 (fun k => (Value.slice A n cp).ownBlock = some k) → TWo w4 B q1 q2 a' b) ∧ Below B w w' := by
 have hB := h.le
 have hs := hb.size
 obtain ⟨P1, N1, P2, N2, h1, h2, h3, h4, h5⟩ := h
 have hge := own_ge hown
 have hlt := own_lt hown
 have hq : RdQ w P1 A n cp d := ⟨rdS_ hown ht, fun ad e _ hp => by
  have := hge ad.block (by rw [e]; rfl)
  have := (h3 _ hp).2.1
  omega⟩
 refine (act_O (h1.below hb) (by omega) cs Ac nc cc hc d A n cp hq).mono ?_
 rintro en w' ⟨rfl, s', X', put', edits', e', r1, r2, r3⟩
 have hs3 := r3.2.2.2.1
 refine ⟨rfl, ⟨s', X', put', edits', e'⟩, r1, own_only hown r3 (fun k hk hp => by
  have := hge k hk
  have := (h3 k hp).2.1
  omega), fun w4 ho4 => ?_, r3.below (by omega) fun k hk => (h3 k hk).1⟩
 have hs4 := ho4.2.2.2.1
 have g2 := (h2.below hb).pass r3 (fun k _ hk => h5 k hk) (fun k _ hk => .inl (h3 k hk).2.2)
 have g1' := r2.pass ho4 (fun k _ hk hp => by
  have e1 := hge k hk
  have e2 := hlt k hk
  rcases hp with hp | hp
  · have := (h3 k hp).2.1; omega
  · omega) (fun k _ hk => .inr ⟨hge k hk, hlt k hk⟩)
 have g2' := g2.pass ho4 (fun k _ hk hp => by
  have e1 := hge k hk
  have := (h4 k hp).2.1
  omega) (fun k _ hk => .inl (.inr ⟨hge k hk, hlt k hk⟩))
 refine ⟨_, _, _, _, g1', g2', fun k hk => ?_, fun k hk => ⟨(h4 k hk).1, by have := (h4 k hk).2.1; omega, .inl (.inl (h4 k hk).2.2)⟩, fun k hk hh => ?_⟩
 · rcases hk with hk | hk
   · exact ⟨(h3 k hk).1, by have := (h3 k hk).2.1; omega, .inl (.inl (.inl (h3 k hk).2.2))⟩
   · exact ⟨by omega, by omega, .inl (.inr hk)⟩
 · rcases hk with hk | hk
   · exact h5 k hk hh
   · have := (h4 k hh).2.1
     omega
theorem two_edit {w0 : World} (h : TWo w0 B q1 q2 a b) (hb : Below w0.heap.size w0 w) {i : Nat} {x : St} (hx : a.X[i]? = some x) (d : List Pt) (A : Option Addr) (n c : Nat) (hd : RdP w w.heap.size A n c d) (hA : ∀ ad, A = some ad → w0.heap.size ≤ ad.block) (hok : doE d x.c.text = 0 ∧ a.edits < 64 ∧ a.put + (nP (units d) : Int) ≤ 500) :
 Calls Try.prog 23 #[.pointer (some ⟨q1, 0, none⟩), .int .i64 i, .slice A n c] w fun en w' => en = .returned (.int .i64 0) ∧ TWo w' B q1 q2 ⟨a.s, a.X.set i (editS x d), a.put + (nP (units d) : Int), a.edits + 1, fun k => if k = i then a.e k + 1 else a.e k⟩ b ∧ Below B w w' := by
 have hB := h.le
 have hs := hb.size
 obtain ⟨P1, N1, P2, N2, h1, h2, h3, h4, h5⟩ := h
 obtain ⟨hp1, hp2⟩ := WdB.pos (B := 0) (WdI.mono h1.i fun k _ _ => Nat.zero_le k)
 refine (wedit_O (h1.step hb) (List.getElem?_eq_some_iff.1 hx).1 hp1 hp2 d A n c ⟨hd, fun ad e _ hp => by
  have := hA ad e
  have := (h3 _ hp).2.1
  omega⟩).mono ?_
 rintro en w' (⟨EE, r1, r2, r3, r4, r5⟩ | ⟨y, r1, r2, r3, r4, r5⟩)
 · exact absurd hok (r5 x hx)
 · rw [hx] at r2
   have r2 := Option.some.inj r2
   subst r2
   exact ⟨r1, TWo.done (a' := ⟨a.s, a.X.set i (editS x d), a.put + (nP (units d) : Int), a.edits + 1, fun k => if k = i then a.e k + 1 else a.e k⟩) (h2.step hb) (fun k hk => ⟨(h3 k hk).1, by have := (h3 k hk).2.1; omega, (h3 k hk).2.2⟩) (fun k hk => ⟨(h4 k hk).1, by have := (h4 k hk).2.1; omega, (h4 k hk).2.2⟩) h5 (by omega) r4 r5, r5.below (by omega) fun k hk => (h3 k hk).1⟩
theorem two_client (h : TWo w B q1 q2 a b) {i : Nat} {x : St} (hx : a.X[i]? = some x) :
 Calls Try.prog 57 #[.pointer (some ⟨q1, 0, none⟩), .int .i64 i] w fun e w' => ∃ A1 n1 c1 A2 n2 c2, e = .returned (.tuple #[clv x.c (A1, n1, c1) (A2, n2, c2), .int .i64 0]) ∧ OwnP w' w.heap.size (.slice A1 n1 c1) x.c.sent ∧ OwnP w' w.heap.size (.slice A2 n2 c2) x.c.held ∧ Below w.heap.size w w' := by
 obtain ⟨P1, N1, P2, N2, h1, _⟩ := h
 exact h1.client hx
theorem two_revs (h : TWo w B q1 q2 a b) :
 Calls Try.prog 29 #[.pointer (some ⟨q1, 0, none⟩)] w fun e w' => ∃ (sl' : Sl) (ss : List Sl), e = .returned (.slice sl'.1 sl'.2.1 sl'.2.2) ∧ OwnV w' w.heap.size (.slice sl'.1 sl'.2.1 sl'.2.2) ss a.s.log.revs ∧ Below w.heap.size w w' := by
 obtain ⟨P1, N1, P2, N2, h1, _⟩ := h
 exact h1.revs
theorem TWo.ck (h : TWo w B q1 q2 a b) {i : Nat} {x : St} (hx : a.X[i]? = some x) : CkOk x.c := by
 obtain ⟨P1, N1, P2, N2, h1, _⟩ := h
 exact (h1.2.seat i x hx).ck
theorem TWo.len (h : TWo w B q1 q2 a b) : a.s.log.revs.length ≤ 64 := by
 obtain ⟨P1, N1, P2, N2, h1, _⟩ := h
 exact h1.2.len
end
theorem Wo.new {w : World} {F : Nat → Prop} {q sq gs cap n : Nat} {sp : List Value} (hM : WdM w F q sq gs cap (List.replicate n nil3) sp shN (seatsN n) 0 0) (hI : WI shN (seatsN n) 0 0 (fun _ => 0)) {l h : Nat} (hF : ∀ k, F k → l ≤ k ∧ k < h) (hq : l ≤ q ∧ q < h) (hg : l ≤ gs ∧ gs < h) (hl : l ≤ w.heap.size) (N : Nat → Prop) (hN : ∀ k, N k → k < l) :
 Wo w (fun k => l ≤ k ∧ k < h) N q shN (seatsN n) 0 0 (fun _ => 0) := by
 have hE : ∀ (i : Nat) a, (List.replicate n nil3)[i]? = some a → a = nil3 := fun i a ha => (List.mem_replicate.1 (List.mem_of_getElem? ha)).2
 refine ⟨⟨fun k => k = q ∨ k = gs, F, fun k => F k ∨ N k, sq, ⟨gs, cap, List.replicate n nil3, sp, ?_, .inl rfl, .inr rfl, fun i a ha g hg => ?_⟩, hM.sh, fun k hk => .inl hk, fun k hk hh => ?_, fun k hk => ?_, hF, fun k hk => .inr hk⟩, hI⟩
 · refine ⟨fun hh => ?_, fun hh => ?_, hM.kq, hM.kg, hM.c1, hM.c2, hM.le, fun i x a hx ha => ?_, hM.ub, ⟨hM.sh.mem.mono (fun k hk => .inl hk) (fun k hk => ?_), hM.sh.inv⟩⟩
   · rcases hh with hh | hh
     · exact hM.fq hh
     · have := hN _ hh; omega
   · rcases hh with hh | hh
     · exact hM.fg hh
     · have := hN _ hh; omega
   · have hss := hM.ss i x a hx ha
     have := hE i a ha
     subst this
     refine ⟨⟨hss.s.1, fun k hk => by cases hk⟩, ⟨hss.h.1, fun k hk => by cases hk⟩, Nat.zero_le _, ?_⟩
     rcases hss.u.2 with ⟨e1, e2, e3⟩ | ⟨m, d, g, o, cur, e1, e2, _⟩
     · exact .inl ⟨e1, e2, fun hp => absurd hp (by decide)⟩
     · cases e2
   · rcases hk with hk | hk
     · exact hM.flt k hk
     · have := hN k hk; omega
 · have := hE i a ha
   subst this
   cases hg
 · rcases hh with rfl | rfl
   · exact hM.fq hk
   · exact hM.fg hk
 · rcases hk with rfl | rfl
   · exact hq
   · exact hg
theorem TWo.new {w1 w : World} {B n : Nat} {F1 F2 : Nat → Prop} {q1 sq1 gs1 cap1 q2 sq2 gs2 cap2 : Nat} {sp1 sp2 : List Value} (h1 : WdM w1 F1 q1 sq1 gs1 cap1 (List.replicate n nil3) sp1 shN (seatsN n) 0 0) (hF1 : ∀ k, F1 k → B ≤ k ∧ k < w1.heap.size) (hq1 : B ≤ q1 ∧ q1 < w1.heap.size) (hg1 : B ≤ gs1 ∧ gs1 < w1.heap.size)
 (hb : Below w1.heap.size w1 w) (h2 : WdM w F2 q2 sq2 gs2 cap2 (List.replicate n nil3) sp2 shN (seatsN n) 0 0) (hF2 : ∀ k, F2 k → w1.heap.size ≤ k ∧ k < w.heap.size) (hq2 : w1.heap.size ≤ q2 ∧ q2 < w.heap.size) (hg2 : w1.heap.size ≤ gs2 ∧ gs2 < w.heap.size) (hI : WI shN (seatsN n) 0 0 (fun _ => 0)) :
 TWo w B q1 q2 ⟨shN, seatsN n, 0, 0, fun _ => 0⟩ ⟨shN, seatsN n, 0, 0, fun _ => 0⟩ := by
 have hs := hb.size
 refine ⟨_, _, _, fun k => B ≤ k ∧ k < w1.heap.size, (Wo.new h1 hI hF1 hq1 hg1 (by omega) (fun _ => False) (fun k hk => hk.elim)).below hb, Wo.new h2 hI hF2 hq2 hg2 hs _ (fun k hk => hk.2), fun k hk => ⟨hk.1, by omega, hk⟩, fun k hk => ⟨by omega, hk.2, .inr hk⟩, fun k hk hh => by
  have := hk.2
  have := hh.1
  omega⟩
end Go.Proofs.Ytokngfinnieccaa
