/- Contract of the helper opened: an archive behind a crash. What a world has come to, handed to an archive anew, revision by revision, each at the last one. An archive that was handed the revisions of a world, synced, crashed by nothing and opened anew. Contracts of scrivref.SameRev and SameRevs, where both are the same. walk of scrivtop.TopReplay. -/
import Derived.Test.YtokngfinnieccaaMTopReplay2
import Derived.Test.YtokngfinnieccaaV30
import Derived.Test.YtokngfinnieccaaV4
import Derived.Test.YtokngfinnieccaaV8
import Derived.Test.YtokngfinnieccaaMTopReplay1
namespace Go.Proofs.Ytokngfinnieccaa
open Go.ChangeShapes Go.WideShapes Go.RowKit
set_option linter.unusedVariables false
set_option linter.unusedSimpArgs false
set_option maxRecDepth 100000
set_option maxHeartbeats 4000000
theorem dchk_sz {x y : Slt} (hx : SzI x) (hy : SzI y) : dchk x y = 0 := by
 unfold dchk
 rw [sbad_ok (x := x) (by have := hx.1; omega) hx.2.1 hx.2.2, sbad_ok (x := y) (by have := hy.1; omega) hy.2.1 hy.2.2]
 simp
structure RpI (s : Sh) (R : List Rv) : Prop where
 inv : ShI s none 1 0 tz
 old : s.old = false
 text : s.log.text = emp
 revs : s.log.revs = R
 tab : ∀ i : Nat, i < 8 → (s.log.table.getD i (0, 0)).1 = cntW i R
theorem RpI.new : RpI shN [] := ⟨ShI.new, rfl, rfl, rfl, by decide⟩
theorem RpI.base {s : Sh} {R : List Rv} (h : RpI s R) : s.log.base = 0 := by rw [h.inv.log.eb]; rfl
theorem RpI.step {s : Sh} {R : List Rv} (h : RpI s R) (p : Nat) (sq : Int) (d : List Pt) (hp : p < 8) (hsq : sq = (cntW p R : Int) + 1) (hl : R.length < 64) (hd : doE d (txt emp R R.length) = 0) :
 subE s (R.length : Nat) p sq d = 0 ∧ subN s (R.length : Nat) p sq d = (R.length : Int) + 1 ∧ RpI (subS s none (R.length : Nat) p sq d) (R ++ [((p : Int), sq, d)]) := by
 have hb0 := h.base
 have htab := h.tab p hp
 have hdc := do_chk hd
 have hcn := cntW_le (p : Int) R
 have hT : (subT s (p : Int)).1 = cntW p R := by unfold subT; rw [Int.toNat_natCast]; exact htab
 have hrv := h.revs
 have hdr : s.log.revs.drop R.length = [] := by rw [hrv]; exact List.drop_length
 have hD : mtL d (s.log.revs.drop R.length) = d := by rw [hdr]; rfl
 have hE0 : mtE d (s.log.revs.drop R.length) = 0 := by rw [hdr]; simp [mtE, hdc.1]
 have hnow := h.inv.log.now
 rw [h.text, hrv] at hnow
 have hnx : nextE s.log s.text.size ((p : Int), sq, d) = 0 := by
  unfold nextE
  have h1 : oneE ((p : Int), sq, d) = 0 := by
   unfold oneE
   rw [if_neg (by simp only; omega)]
   exact hdc.1
  rw [if_neg (by rw [h1]; simp), if_neg ?_, if_neg (by rw [hrv]; omega), ← hnow]
  · exact hd
  · simp only [Int.toNat_natCast]
    rw [htab]; omega
 have hE : subE s (R.length : Nat) p sq d = 0 := by
  unfold subE
  rw [if_neg (by omega), if_neg (by rw [hdc.1]; simp), if_neg (by rw [hT]; omega), if_neg (by rw [hT]; omega)]
  have ht0 : thE s.log (R.length : Nat) = 0 := by unfold thE; rw [hrv, if_neg (by omega), if_neg (by omega)]
  rw [if_neg (by rw [ht0]; simp), hb0, Int.sub_zero, Int.toNat_natCast, if_neg (by rw [h.text, hrv]; have := hdc.2.1; omega), if_neg (by rw [hE0]; simp), hD]
  exact hnx
 have hA : ¬ subAgain s p sq d := by
  intro hh
  have := hh.2.2.2
  rw [hT] at this
  omega
 have hSS : subS s none (R.length : Nat) p sq d = addS s ((p : Int), sq, d) := by
  unfold subS
  rw [if_neg (by rintro (hh | hh); exact hh hE; exact hA hh), hb0, Int.sub_zero, Int.toNat_natCast, hD]
  unfold addG
  rw [if_pos hnx, if_neg (by decide)]
 have hrev : (addS s ((p : Int), sq, d)).log.revs = R ++ [((p : Int), sq, d)] := by show s.log.revs ++ _ = _; rw [hrv]
 refine ⟨hE, ?_, ?_⟩
 · unfold subN
   rw [if_neg (by rw [hE]; simp), if_neg hA, hb0, hrv]
   omega
 · rw [hSS]
   refine ⟨?_, h.old, h.text, hrev, ?_⟩
   · have := h.inv.add ((p : Int), sq, d)
     unfold addG at this
     rw [if_pos hnx, if_neg (by decide)] at this
     exact this
   · intro k hk
     show ((s.log.table.set (p : Int).toNat (sq, s.log.base + (s.log.revs.length + 1 : Nat))).getD k (0, 0)).1 = _
     rw [Int.toNat_natCast, List.getD_eq_getElem?_getD]
     by_cases hki : k = p
     · subst hki
       rw [List.getElem?_set_self (by have := h.inv.log.hg.l8.2; omega), cntW_app]
       simp [cntW]
       omega
     · rw [List.getElem?_set_ne (Ne.symm hki), ← List.getD_eq_getElem?_getD, h.tab k hk, cntW_app]
       simp only [cntW]
       rw [if_neg (by omega)]
       omega
section
variable {s : Sh} {g b : Nat} {tN : List (Nat × Nat)}
theorem open_same2 (h : ShI s none g b tN) (ho : s.old = false) (hf : (slotOf s s.at_).2 = ((slotOf s s.at_).1.size : Int)) (ka kb : Int) : ∃ (fs0 : List Fm) (rest0 : List UInt8) (fs1 : List Fm) (rest1 : List UInt8) (a : Nat) (l : Lg),
 (crashS s.d0 ka).1.data.toList = flat fs0 ++ rest0 ∧ (gf rest0).2.2.2 ≠ 0 ∧ (∀ p ∈ fs0, okF p) ∧ fs0.length ≤ 300 ∧ (crashS s.d1 kb).1.data.toList = flat fs1 ++ rest1 ∧ (gf rest1).2.2.2 ≠ 0 ∧ (∀ p ∈ fs1, okF p) ∧ fs1.length ≤ 300 ∧
 pickS (opS fs0) (opS fs1) = some (a, l) ∧ a ≤ 1 ∧ (∃ g' b' t', ShI (opnS (crashS s.d0 ka) (crashS s.d1 kb) a l) none g' b' t') ∧
 (opnS (crashS s.d0 ka) (crashS s.d1 kb) a l).d0 = s.d0 ∧ (opnS (crashS s.d0 ka) (crashS s.d1 kb) a l).d1 = s.d1 ∧ l.base = s.log.base ∧ l.revs = s.log.revs ∧ l.text = s.log.text := by
 have ha := h.at1
 have hE : Emp (slotOf s (1 - s.at_)) := by
  rcases h.oth with ⟨e, _⟩ | ⟨_, e⟩
  · rw [ho] at e; cases e
  · exact e
 have hfe : (slotOf s (1 - s.at_)).2 = ((slotOf s (1 - s.at_)).1.size : Int) := by rw [hE.1, hE.2]; rfl
 obtain ⟨r1, r2, j0, e1, e2, e3, e4, e5⟩ := h.cur
 have hlen := h.log.len
 have hll := congrArg List.length e1
 rw [List.length_append] at hll
 have hok := h.log.ok
 rw [e1] at hok
 have hone := h.log.one
 have hokF : ∀ p ∈ SF g b tN s.log.text r1 (some r2), okF p := SF_ok h.log.hd _ _ (fun r hr => hone r (by rw [e1]; exact List.mem_append_left _ hr)) (fun l e r hr => by injection e with e; subst e; exact hone r (by rw [e1]; exact List.mem_append_right _ hr))
 have hlF : (SF g b tN s.log.text r1 (some r2)).length ≤ 300 := by
  have hl := SF_len (g := g) (b := b) (t := tN) (tx := s.log.text) r1 (some r2)
  simp only at hl
  omega
 have hop := opS_2 h.log.hd r1 r2 hok
 have hemp : (slotOf s (1 - s.at_)).1.data.toList = flat [] ++ [] := by rw [List.eq_nil_of_length_eq_zero (show (slotOf s (1 - s.at_)).1.data.toList.length = 0 from hE.1)]; rfl
 have hpk := pick_one ha hop (oo := opS []) (fun l' e => by rw [opS_nil] at e; cases e)
 have hcl : (slotOf s s.at_).1.data.toList = flat (SF g b tN s.log.text r1 (some r2)) ++ [] := by rw [e2, List.append_nil]
 have hG : (slotOf s s.at_).1.size = (flat (SF g b tN s.log.text r1 (some r2))).length := bs_sz e2
 have htr : (slotOf s s.at_).1.extract 0 (flat (SF g b tN s.log.text r1 (some r2))).length = (slotOf s s.at_).1 := ext_all _ _ (by omega)
 have hte := trim_same hE
 obtain e | e : s.at_ = 0 ∨ s.at_ = 1 := by omega
 · rw [e] at hpk hcl hemp hG htr hte hf hfe
   have k0 : crashS s.d0 ka = s.d0 := crash_same hf ka
   have k1 : crashS s.d1 kb = s.d1 := crash_same hfe kb
   rw [k0, k1]
   have hI := opn_inv s.d0 s.d1 0 (by omega) h.log.hd h.g1 r1 r2 [] hok hcl (by have := h.szo; rw [e] at this; exact this)
   refine ⟨_, [], [], [], 0, _, hcl, by decide, hokF, hlF, hemp, by decide, by simp, by simp, hpk, by omega, ⟨g, b, tN, hI⟩, ?_, ?_, h.log.eb.symm, e1.symm, rfl⟩
   · show ((s.d0.1.extract 0 (flat (SF g b tN s.log.text r1 (some r2))).length, ((s.d0.1.extract 0 (flat (SF g b tN s.log.text r1 (some r2))).length).size : Int)) : Slt) = s.d0
     have htr' : s.d0.1.extract 0 (flat (SF g b tN s.log.text r1 (some r2))).length = s.d0.1 := htr
     have hf' : s.d0.2 = (s.d0.1.size : Int) := hf
     rw [htr', ← hf']
   · exact hte
 · rw [e] at hpk hcl hemp hG htr hte hf hfe
   have k0 : crashS s.d0 ka = s.d0 := crash_same hfe ka
   have k1 : crashS s.d1 kb = s.d1 := crash_same hf kb
   rw [k0, k1]
   have hI := opn_inv s.d0 s.d1 1 (by omega) h.log.hd h.g1 r1 r2 [] hok hcl (by have := h.szo; rw [e] at this; exact this)
   refine ⟨[], [], _, [], 1, _, hemp, by decide, by simp, by simp, hcl, by decide, hokF, hlF, hpk, by omega, ⟨g, b, tN, hI⟩, ?_, ?_, h.log.eb.symm, e1.symm, rfl⟩
   · exact hte
   · show ((s.d1.1.extract 0 (flat (SF g b tN s.log.text r1 (some r2))).length, ((s.d1.1.extract 0 (flat (SF g b tN s.log.text r1 (some r2))).length).size : Int)) : Slt) = s.d1
     have htr' : s.d1.1.extract 0 (flat (SF g b tN s.log.text r1 (some r2))).length = s.d1.1 := htr
     have hf' : s.d1.2 = (s.d1.1.size : Int) := hf
     rw [htr', ← hf']
end
theorem sync_full (s : Sh) (ha : s.at_ ≤ 1) : (slotOf (syncG s none) (syncG s none).at_).2 = ((slotOf (syncG s none) (syncG s none).at_).1.size : Int) := by
 show (slotOf (syncSh s s.at_) s.at_).2 = ((slotOf (syncSh s s.at_) s.at_).1.size : Int)
 rw [slot_syn s s.at_ s.at_ ha ha, if_pos rfl]
theorem RpI.reopen {s : Sh} {R : List Rv} (h : RpI s R) : ∃ (x0 : ByteArray) (x1 : Int) (y0 : ByteArray) (y1 : Int) (S : Sh) (g : Nat), S.log.base = 0 ∧ S.log.revs = R ∧ S.log.text = emp ∧
 (∀ w, Calls Try.prog 62 #[dvl (syncG s none).d0 (syncG s none).d1, .agg #[.int .i64 0, .int .i64 0]] w fun e w' => e = .returned (.tuple #[.agg #[.string x0, .int .i64 x1, .string y0, .int .i64 y1], .int .i64 0]) ∧ Below w.heap.size w w') ∧
 (∀ w, Calls Try.prog 63 #[.agg #[.string x0, .int .i64 x1, .string y0, .int .i64 y1]] w fun e w' => ∃ q, e = .returned (.tuple #[.pointer (some ⟨q, 0, none⟩), .int .i64 0]) ∧ ShB w' w.heap.size q S none g ∧ Below w.heap.size w w') := by
 have hI := h.inv.sync
 obtain ⟨fs0, rest0, fs1, rest1, a, l, e1, e2, e3, e4, e5, e6, e7, e8, e9, e10, ⟨g', b', t', e11⟩, e12, e13, e14, e15, e16⟩ := open_same2 hI h.old (sync_full s h.inv.at1) 0 0
 have z0 := hI.sz 0 (by omega)
 have z1 := hI.sz 1 (by omega)
 have hc := dchk_sz (crash_sz z0 0) (crash_sz z1 0)
 obtain ⟨⟨x0, x1⟩, hx⟩ : ∃ X : Slt, crashS (syncG s none).d0 0 = X := ⟨_, rfl⟩
 obtain ⟨⟨y0, y1⟩, hy⟩ : ∃ Y : Slt, crashS (syncG s none).d1 0 = Y := ⟨_, rfl⟩
 have hcr : ∀ w, Calls Try.prog 62 #[dvl (syncG s none).d0 (syncG s none).d1, .agg #[.int .i64 0, .int .i64 0]] w fun e w' => e = .returned (.tuple #[.agg #[.string x0, .int .i64 x1, .string y0, .int .i64 y1], .int .i64 0]) ∧ Below w.heap.size w w' := by
  intro w
  have := dcrash_good (syncG s none).d0 (syncG s none).d1 0 0 w (dchk_sz z0 z1)
  rw [hx, hy] at this
  exact this
 have e1 : (crashS (syncG s none).d0 0).1.data.toList = flat fs0 ++ rest0 := e1
 have e5 : (crashS (syncG s none).d1 0).1.data.toList = flat fs1 ++ rest1 := e5
 have e11 : ShI (opnS (crashS (syncG s none).d0 0) (crashS (syncG s none).d1 0) a l) none g' b' t' := e11
 have hc : dchk (crashS (syncG s none).d0 0) (crashS (syncG s none).d1 0) = 0 := hc
 rw [hx] at e1 e11 hc
 rw [hy] at e5 e11 hc
 refine ⟨x0, x1, y0, y1, opnS (x0, x1) (y0, y1) a l, g', ?_, ?_, ?_, hcr, fun w => sopen_any x0 x1 y0 y1 fs0 fs1 rest0 rest1 w hc e1 e2 e3 e4 e5 e6 e7 e8 a l e9 g' b' t' e11⟩
 · show l.base = 0
   rw [e14]; exact h.base
 · show l.revs = R
   rw [e15]; exact h.revs
 · show l.text = emp
   rw [e16]; exact h.text
theorem samerev_true (a b : Int) (d : List Pt) (A A' : Option Addr) (n n' c c' : Nat) (w : World) (h : RdP w w.heap.size A n c d) (h' : RdP w w.heap.size A' n' c' d) :
 Calls Try.prog 97 #[.agg #[.int .i64 a, .int .i64 b, .slice A n c], .agg #[.int .i64 a, .int .i64 b, .slice A' n' c']] w fun e w' => e = .returned (.bool true) ∧ Below w.heap.size w w' := by
 have hb1 := (Below.refl w.heap.size w).alloc (Nat.le_refl _) (.cells #[.int .i64 a, .int .i64 b, .slice A n c] 30)
 have hb0 := hb1.alloc hb1.size (.cells #[.int .i64 a, .int .i64 b, .slice A' n' c'] 30)
 have hc := same_true d d A A' n n' c c' _ _ _ ((h.stepA (.cells #[.int .i64 a, .int .i64 b, .slice A n c] 30)).stepA (.cells #[.int .i64 a, .int .i64 b, .slice A' n' c'] 30)) ((h'.stepA (.cells #[.int .i64 a, .int .i64 b, .slice A n c] 30)).stepA (.cells #[.int .i64 a, .int .i64 b, .slice A' n' c'] 30)) rfl
 have Hc := Lib.hid hc
 clear hc h h' hb1
 go_enter Try.func97, Try.ntmps97
 go_wp2_with fail
 refine Hc.out.mono ?_
 rintro e w1 ⟨rfl, hb⟩
 have hw := hb0.trans (hb.mono hb0.size)
 go_wp2_with fail
 go_ret
 exact ⟨rfl, hw⟩
theorem eqrevs_true (l : List Rv) (A A' : Option Addr) (n n' c c' : Nat) (w : World) (h : RdR w w.heap.size A n c l) (h' : RdR w w.heap.size A' n' c' l) :
 Calls Try.prog 96 #[.slice A n c, .slice A' n' c', .func (.func 97) #[] #[]] w fun e w' => e = .returned (.bool true) ∧ Below w.heap.size w w' := by
 obtain rfl : n' = n := by rw [h'.1, h.1]
 have hle := h.le
 have Hn := Lib.hid h.1
 have H := Lib.hid h
 have H' := Lib.hid h'
 clear h h'
 go_enter Try.func96, Try.ntmps96
 go_wp2_with fail
 go_loopw [7, 8, 9, 17] (fun x y z i wr => ∃ (k : Nat), k ≤ n' ∧ i = .int .i64 k ∧ Hid (Below w.heap.size w wr)) (fun _ _ _ i _ => n' - (intOf i).toNat)
 case atStart => exact ⟨0, by omega, rfl, Lib.hid (Below.refl _ _)⟩
 case round =>
  obtain ⟨k, hk, rfl, hbw⟩ := hrel
  by_cases hlt : k < n'
  · have hkl : k < l.length := by have := Hn.out; omega
    obtain ⟨g, o, A1, n1, c1, rfl, hg, d0, d1, d2, hrd⟩ := (H.out.below hbw.out).at_ k hlt
    obtain ⟨g', o', A2, n2, c2, rfl, hg', d0', d1', d2', hrd'⟩ := (H'.out.below hbw.out).at_ k hlt
    obtain ⟨p, hp⟩ : ∃ p, p = l[k] := ⟨_, rfl⟩
    rw [← hp] at d0 d1 hrd d0' d1' hrd'
    clear hp
    obtain ⟨ra, rb, d⟩ := p
    simp only at d0 d1 d2 hrd d0' d1' d2' hrd'
    have hk0 : (0 : Int) ≤ (k : Int) := by omega
    have hkn : (k : Int) < (n' : Int) := by omega
    have hws := hbw.out.size
    have hgw : g < wr.heap.size := by omega
    have hgw' : g' < wr.heap.size := by omega
    have hb1 := (Below.refl wr.heap.size wr).alloc (Nat.le_refl _) (.cells #[.int .i64 ra, .int .i64 rb, .slice A1 n1 c1] 30)
    have hb0 := hb1.alloc hb1.size (.cells #[.int .i64 ra, .int .i64 rb, .slice A2 n2 c2] 30)
    have hc := samerev_true ra rb d A1 A2 n1 n2 c1 c2 _ (((hrd.more hws).stepA (.cells #[.int .i64 ra, .int .i64 rb, .slice A1 n1 c1] 30)).stepA (.cells #[.int .i64 ra, .int .i64 rb, .slice A2 n2 c2] 30)) (((hrd'.more hws).stepA (.cells #[.int .i64 ra, .int .i64 rb, .slice A1 n1 c1] 30)).stepA (.cells #[.int .i64 ra, .int .i64 rb, .slice A2 n2 c2] 30))
    have Hc := Lib.hid hc
    have Hb0 := Lib.hid hb0
    clear hc hrd hrd' hb1 hb0 hws
    go_wp2_with fail
    refine Hc.out.mono ?_
    rintro e w2 ⟨rfl, hb2⟩
    have hw2 := hbw.out.trans ((Hb0.out.trans (hb2.mono Hb0.out.size)).mono hbw.out.size)
    clear hb2
    go_wp2_with fail
    go_roundw
    case rel => exact ⟨k + 1, by omega, by go_num, Lib.hid hw2⟩
    case measure => simp [intOf]; omega
  · obtain rfl : k = n' := by omega
    go_wp2_with fail
    go_ret
    exact ⟨rfl, hbw.out⟩
theorem samerevs_true (l : List Rv) (A A' : Option Addr) (n n' c c' : Nat) (w : World) (h : RdR w w.heap.size A n c l) (h' : RdR w w.heap.size A' n' c' l) :
 Calls Try.prog 61 #[.slice A n c, .slice A' n' c'] w fun e w' => e = .returned (.bool true) ∧ Below w.heap.size w w' := by
 have hc := eqrevs_true l A A' n n' c c' w h h'
 have Hc := Lib.hid hc
 clear hc h h'
 go_enter Try.func61, Try.ntmps61
 go_wp2_with fail
 refine Hc.out.mono ?_
 rintro e w1 ⟨rfl, hb⟩
 go_wp2_with fail
 go_ret
 exact ⟨rfl, hb⟩
theorem OwnV.farR {w w' : World} {B Z : Nat} {v : Value} {ss : List Sl} {l : List Rv} (h : OwnV w Z v ss l) (ho : Only w w' (fun k => B ≤ k ∧ k < Z)) : OwnV w' Z v ss l :=
 h.only ho (fun k hk hS => by have h1 := own_ge h.row k hk; have h2 : B ≤ k ∧ k < Z := hS; omega) (fun j hj k hk hS => by have h1 := own_ge (h.ds j hj).1 k hk; have h2 : B ≤ k ∧ k < Z := hS; omega)
theorem walk_TopReplay (n : Int) (wn : (Lit.int .i64 n).wf = true) (v1 : Value) (l : List (List Int)) (v2 : Value) (ds : List (List Pt)) (w : World) (hl : IsRows w v1 l) (hd : IsDeltas w v2 ds) :
 Calls Try.prog 14 #[.int .i64 n, v1, v2] w fun e w' => e = .returned (.bool true) ∧ Below w.heap.size w w' := by
 obtain ⟨Al, nl, cl, sl, rfl, hrs, hrl⟩ := hl
 obtain ⟨Ad, nd, cd, sd, rfl, hds, hdd⟩ := hd
 obtain ⟨B, hB⟩ : ∃ B, w.heap.size = B := ⟨_, rfl⟩
 rw [hB] at hrs hrl hds hdd
 have HRS := Lib.hid hrs
 have HRL := Lib.hid hrl
 have HDS := Lib.hid hds
 have HDD := Lib.hid hdd
 have HBw := Lib.hid hB
 have HB : Hid (B ≤ w.heap.size) := Lib.hid (by omega)
 have HW : Hid (Below B w w) := Lib.hid (Below.refl _ _)
 have hnl0 : (0 : Int) ≤ (nl : Int) := by omega
 have hnd0 : (0 : Int) ≤ (nd : Int) := by omega
 have hnlc : nl ≤ cl ∧ cl ≤ maxLen := ⟨hrs.2.1, hrs.2.2.1⟩
 have hndc : nd ≤ cd ∧ cd ≤ maxLen := ⟨hds.2.1, hds.2.2.1⟩
 have hcl1 : (nl : Int) ≤ (cl : Int) := by omega
 have hcl2 : (cl : Int) ≤ 9223372036854775807 := by have := hnlc.2; simp only [maxLen] at this; omega
 have hcd1 : (nd : Int) ≤ (cd : Int) := by omega
 have hcd2 : (cd : Int) ≤ 9223372036854775807 := by have := hndc.2; simp only [maxLen] at this; omega
 clear hrs hrl hds hdd hB hnlc hndc
 go_enter Try.func14, Try.ntmps14
 obtain ⟨m, hm⟩ : ∃ m, wi n 4 = m := ⟨_, rfl⟩
 have hm4 : m < 4 := by rw [← hm]; exact wi_lt n 4 (by decide)
 have hc_ := within_any n 4 w (by decide) (by decide)
 rw [hm] at hc_
 have Hc_ := Lib.hid hc_
 clear hc_ hm
 go_wp2_with fail
 refine Hc_.out.mono ?_
 rintro en w9 ⟨rfl, rfl⟩
 clear Hc_
 obtain ⟨N, hN⟩ : ∃ N, 1 + m = N := ⟨_, rfl⟩
 have hNc : IntKind.i64.wrap (1 + (m : Int)) = (N : Int) := by rw [← hN]; exact IntWalk.i64_in _ (by omega) |>.trans (by omega)
 have hN1 : 1 ≤ N := by omega
 have hN4 : N ≤ 4 := by omega
 clear hN hm4
 have hc_ := wnew_B (B := B) N hN1 hN4 w HB.out
 have Hc_ := Lib.hid hc_
 clear hc_
 go_wp2_with fail
 refine Hc_.out.mono ?_
 rintro en w1 ⟨q, rfl, hwd, hb1⟩
 clear Hc_
 have HN := Lib.hid hwd
 have HZ : Hid (w1.heap.size ≤ w1.heap.size) := Lib.hid (Nat.le_refl _)
 obtain ⟨Z, hZ⟩ : ∃ Z, w1.heap.size = Z := ⟨_, rfl⟩
 rw [hZ] at HN
 have HZ : Hid (Z ≤ w1.heap.size) := Lib.hid (Nat.le_of_eq hZ.symm)
 clear hwd hZ
 replace HW := Lib.hid (HW.out.trans (hb1.mono HB.out))
 replace HB : Hid (B ≤ w1.heap.size) := Lib.hid (Nat.le_trans HB.out hb1.size)
 clear hb1
 have hc_ := begun_any w1
 have Hc_ := Lib.hid hc_
 clear hc_
 go_wp2_with fail
 refine Hc_.out.mono ?_
 rintro en w2 ⟨rfl, hb2⟩
 clear Hc_
 replace HN := Lib.hid (HN.out.below hb2)
 replace HZ := Lib.hid (Nat.le_trans HZ.out (hb2.size))
 replace HW := Lib.hid (HW.out.trans (hb2.mono HB.out))
 replace HB : Hid (B ≤ w2.heap.size) := Lib.hid (Nat.le_trans HB.out hb2.size)
 clear hb2
 have hwd := HN.out.mono (P' := fun k => B ≤ k) (fun k _ hk => hk.1)
 have HWD := Lib.hid (show WdB w2 B q shN (seatsN N) 0 0 (fun _ => 0) from hwd)
 have HX : Hid ((seatsN N).length = N) := Lib.hid (by rw [seatsN, List.length_map, List.length_range])
 clear HN HZ hwd
 go_upto_region 6 with (fail)
 go_loopw [9, 10, 11, 44] (fun x9 x10 x11 iv wr => ∃ (k : Nat) (s : Sh) (X : List St) (put edits : Int) (e : Nat → Nat), k ≤ nl ∧ iv = .int .i64 k ∧ Hid (WdB wr B q s X put edits e) ∧ Hid (X.length = N) ∧ Hid (Below B w wr) ∧ Hid (B ≤ wr.heap.size)) (fun _ _ _ iv _ => nl - (intOf iv).toNat)
 case atStart => exact ⟨0, _, _, _, _, _, by omega, rfl, HWD, HX, HW, HB⟩
 case round =>
  clear HWD HX HW HB
  obtain ⟨k, s, X, put, edits, e, hk, rfl, HWD, HX, HW, HB⟩ := hrel
  by_cases hlt : k < nl
  · skip
    have hk0 : (0 : Int) ≤ (k : Int) := by omega
    have hkn : (k : Int) < (nl : Int) := by omega
    have hsll : sl.length = nl := HRS.out.1.symm
    have hll : l.length = nl := by rw [← hsll]; exact HRL.out.1.symm
    obtain ⟨sk, hsk⟩ : ∃ sk, sl[k]? = some sk := ⟨_, List.getElem?_eq_getElem (by omega)⟩
    obtain ⟨cs, hcs⟩ : ∃ cs, l[k]? = some cs := ⟨_, List.getElem?_eq_getElem (by omega)⟩
    obtain ⟨bk, ok, hAl, hbk, dk⟩ := (HRS.out.below HW.out).at_ hsk
    subst hAl
    have hbk' : bk < wr.heap.size := Nat.lt_of_lt_of_le hbk HB.out
    have hrow := HRL.out.2 k sk cs hsk hcs
    obtain ⟨Ac, nc, cc⟩ := sk
    simp only at hrow dk
    have HRW := Lib.hid hrow
    have hnc0 : (0 : Int) ≤ (nc : Int) := by omega
    have HNC : Hid (nc = cs.length) := Lib.hid hrow.1
    clear hsll hll hsk hcs hrow
    have Hat := Lib.hid (at_any cs Ac nc cc B 1 wr (HRW.out.below HW.out) HB.out (by decide))
    go_wp2_with fail
    refine Hat.out.mono ?_
    rintro en w9 ⟨rfl, rfl⟩
    clear Hat
    obtain ⟨a1, ha1⟩ : ∃ a1, atL cs 1 = a1 := ⟨_, rfl⟩
    obtain ⟨I, hIe⟩ : ∃ x, wi a1 N = x := ⟨_, rfl⟩
    have hIl : I < N := by rw [← hIe]; exact wi_lt a1 N (by omega)
    have hc_ := within_any a1 N wr (by omega) (by omega)
    rw [hIe] at hc_
    have Hc_ := Lib.hid hc_
    have HI := Lib.hid hIe
    clear hc_ hIe
    go_wp2_with fail
    refine Hc_.out.mono ?_
    rintro en w9 ⟨rfl, rfl⟩
    clear Hc_
    have Hat := Lib.hid (at_any cs Ac nc cc B 0 wr (HRW.out.below HW.out) HB.out (by decide))
    go_wp2_with fail
    refine Hat.out.mono ?_
    rintro en w9 ⟨rfl, rfl⟩
    clear Hat
    obtain ⟨a0, ha0⟩ : ∃ a0, atL cs 0 = a0 := ⟨_, rfl⟩
    obtain ⟨K, hKe⟩ : ∃ x, wi a0 3 = x := ⟨_, rfl⟩
    have hKl : K < 3 := by rw [← hKe]; exact wi_lt a0 3 (by decide)
    have hc_ := within_any a0 3 wr (by decide) (by decide)
    rw [hKe] at hc_
    have Hc_ := Lib.hid hc_
    have HK := Lib.hid hKe
    clear hc_ hKe
    go_wp2_with fail
    refine Hc_.out.mono ?_
    rintro en w9 ⟨rfl, rfl⟩
    clear Hc_
    have hIX : I < X.length := by rw [HX.out]; exact hIl
    have hk3 : K = 0 ∨ K = 1 ∨ K = 2 := by omega
    clear hKl
    rcases hk3 with hk0 | hk0 | hk0
    · skip
      subst hk0
      by_cases hkd : k < nd
      · skip
        have hkd' : (k : Int) < (nd : Int) := by omega
        have hsdl : sd.length = nd := HDS.out.1.symm
        have hdl : ds.length = nd := by rw [← hsdl]; exact HDD.out.1.symm
        obtain ⟨tk, htk⟩ : ∃ tk, sd[k]? = some tk := ⟨_, List.getElem?_eq_getElem (by omega)⟩
        obtain ⟨d, hdk⟩ : ∃ d, ds[k]? = some d := ⟨_, List.getElem?_eq_getElem (by omega)⟩
        obtain ⟨be, oe, hAd, hbe, de⟩ := (HDS.out.below HW.out).at_ htk
        subst hAd
        have hbe' : be < wr.heap.size := Nat.lt_of_lt_of_le hbe HB.out
        have hdel := HDD.out.2 k tk d htk hdk
        obtain ⟨Ae, ne, ce⟩ := tk
        simp only at hdel de
        have HDL := Lib.hid hdel
        have hne0 : (0 : Int) ≤ (ne : Int) := by omega
        have hnec : ne ≤ ce ∧ ce ≤ maxLen := ⟨hdel.2.1.1, hdel.2.1.2.1⟩
        have hce1 : (ne : Int) ≤ (ce : Int) := by omega
        have hce2 : (ce : Int) ≤ 9223372036854775807 := by have := hnec.2; simp only [maxLen] at this; omega
        have HTK := Lib.hid htk
        clear hsdl hdl hdk hdel hnec
        have hc_ := wedit_B HWD.out HB.out (i := I) hIX d Ae ne ce (HDL.out.below HW.out)
        have Hc_ := Lib.hid hc_
        clear hc_
        go_wp2_with fail
        refine Hc_.out.mono ?_
        rintro en we (⟨EE, rfl, hEE, hwd, hb2⟩ | ⟨x, rfl, hx, hdo, hwd, hb2⟩)
        · skip
          clear Hc_
          have HWD := Lib.hid hwd
          clear hwd
          replace HW := Lib.hid (HW.out.trans hb2)
          replace HB : Hid (B ≤ we.heap.size) := Lib.hid (Nat.le_trans HB.out hb2.size)
          clear hb2
          go_wp2_with fail
          go_roundw
          case rel => exact ⟨k + 1, s, X, put, edits, e, by omega, by go_num, HWD, HX, HW, HB⟩
          case measure => simp [intOf]; omega
        · skip
          clear Hc_
          have HX2 : Hid ((X.set I (editS x d)).length = N) := Lib.hid (by rw [List.length_set]; exact HX.out)
          have HWD := Lib.hid hwd
          clear hwd
          replace HW := Lib.hid (HW.out.trans hb2)
          replace HB : Hid (B ≤ we.heap.size) := Lib.hid (Nat.le_trans HB.out hb2.size)
          clear hb2
          go_wp2_with fail
          go_roundw
          case rel => exact ⟨k + 1, s, _, _, _, _, by omega, by go_num, HWD, HX2, HW, HB⟩
          case measure => simp [intOf]; omega
      · skip
        have hkd' : (nd : Int) ≤ (k : Int) := by omega
        go_wp2_with fail
        go_roundw
        case rel => exact ⟨k + 1, s, X, put, edits, e, by omega, by go_num, HWD, HX, HW, HB⟩
        case measure => simp [intOf]; omega
    · skip
      subst hk0
      have hc_ := wup_B HWD.out HB.out hIX
      have Hc_ := Lib.hid hc_
      clear hc_
      go_wp2_with fail
      refine Hc_.out.mono ?_
      rintro en w43 ⟨b, s2, X2, rfl, hup, hwd, hb2⟩
      have HX2 : Hid (X2.length = N) := Lib.hid (by rw [hup.len]; exact HX.out)
      clear hup
      clear Hc_
      have HWD := Lib.hid hwd
      clear hwd
      replace HW := Lib.hid (HW.out.trans hb2)
      replace HB : Hid (B ≤ w43.heap.size) := Lib.hid (Nat.le_trans HB.out hb2.size)
      clear hb2
      go_wp2_with fail
      go_roundw
      case rel => exact ⟨k + 1, s2, X2, put, edits, e, by omega, by go_num, HWD, HX2, HW, HB⟩
      case measure => simp [intOf]; omega
    · skip
      subst hk0
      have hc_ := wdown_B HWD.out HB.out hIX
      have Hc_ := Lib.hid hc_
      clear hc_
      go_wp2_with fail
      refine Hc_.out.mono ?_
      rintro en w43 ⟨b, X2, rfl, hdn, hwd, hb2⟩
      have HX2 : Hid (X2.length = N) := Lib.hid (by rw [hdn.len]; exact HX.out)
      clear hdn
      clear Hc_
      have HWD := Lib.hid hwd
      clear hwd
      replace HW := Lib.hid (HW.out.trans hb2)
      replace HB : Hid (B ≤ w43.heap.size) := Lib.hid (Nat.le_trans HB.out hb2.size)
      clear hb2
      go_wp2_with fail
      go_roundw
      case rel => exact ⟨k + 1, s, X2, put, edits, e, by omega, by go_num, HWD, HX2, HW, HB⟩
      case measure => simp [intOf]; omega
  · skip
    have hkn : k = nl := by omega
    subst hkn
    have hc_ := wsettle_B HWD.out HB.out (fun _ _ => True) ⟨fun _ _ _ _ _ _ _ _ _ => trivial, fun _ _ _ _ _ _ _ _ => trivial⟩ trivial
    have Hc_ := Lib.hid hc_
    clear hc_
    go_wp2_with fail
    refine Hc_.out.mono ?_
    rintro en w23 ⟨rfl, s9, X9, hwd, hcalm, hev9, hlen9, hb2⟩
    have HCA := Lib.hid hcalm
    have HEV := Lib.hid hev9
    have HX9 : Hid (X9.length = N) := Lib.hid (by rw [hlen9]; exact HX.out)
    clear hcalm hlen9 hev9
    clear Hc_
    clear HWD
    have HWD := Lib.hid hwd
    clear hwd
    replace HW := Lib.hid (HW.out.trans hb2)
    replace HB : Hid (B ≤ w23.heap.size) := Lib.hid (Nat.le_trans HB.out hb2.size)
    clear hb2
    have HBo := HB
    have HWZ : Hid (Below w23.heap.size w23 w23) := Lib.hid (Below.refl _ _)
    have HW1 := HWD
    clear HEV HX
    have hc_ := snew_B w23
    have Hc_ := Lib.hid hc_
    clear hc_
    go_wp2_with fail
    refine Hc_.out.mono ?_
    rintro en w24 ⟨q2, rfl, hsn, hb24⟩
    clear Hc_
    replace HWZ := Lib.hid (HWZ.out.trans (hb24.mono HWZ.out.size))
    replace HW := Lib.hid (HW.out.trans (hb24.mono HB.out))
    replace HB : Hid (B ≤ w24.heap.size) := Lib.hid (Nat.le_trans HB.out hb24.size)
    clear hb24
    obtain ⟨b_, tN_, hgg⟩ := hsn
    obtain ⟨Z1, hZ1⟩ : ∃ Z1, w23.heap.size = Z1 := ⟨_, rfl⟩
    obtain ⟨Z2, hZ2⟩ : ∃ Z2, w24.heap.size = Z2 := ⟨_, rfl⟩
    rw [hZ1, hZ2] at hgg
    have HBZ1 : Hid (B ≤ Z1) := Lib.hid (by rw [← hZ1]; exact HBo.out)
    have HZ1 := Lib.hid hZ1
    have HZ12 : Hid (Z1 ≤ Z2) := Lib.hid (by have h : Z1 ≤ q2 ∧ q2 < Z2 := hgg.mem.fq; omega)
    have HG := Lib.hid hgg
    have HWD := Lib.hid (HW1.out.below HWZ.out)
    clear hgg hZ1
    obtain ⟨R0, hR0⟩ : ∃ R0, s9.log.revs = R0 := ⟨_, rfl⟩
    obtain ⟨NR, hNR⟩ : ∃ NR, R0.length = NR := ⟨_, rfl⟩
    have HR0 := Lib.hid hR0
    have HNR := Lib.hid hNR
    have hNR4 : NR ≤ 64 := by rw [← hNR, ← hR0]; exact HWD.out.2.len
    have hNR0 : (0 : Int) ≤ (NR : Int) := by omega
    clear hR0 hNR
    have HZ2w : Hid (Z2 ≤ w24.heap.size) := Lib.hid (by omega)
    have hc_ := wrevs_B HWD.out
    have Hc_ := Lib.hid hc_
    clear hc_
    go_wp2_with fail
    refine Hc_.out.mono ?_
    rintro en w25 ⟨⟨Aw, nw, cw⟩, ssw, rfl, how, hb25⟩
    clear Hc_
    replace HWZ := Lib.hid (HWZ.out.trans (hb25.mono HWZ.out.size))
    replace HG := Lib.hid (HG.out.below hb25)
    replace HWD := Lib.hid (HWD.out.below hb25)
    replace HZ2w := Lib.hid (Nat.le_trans HZ2w.out (hb25.size))
    replace HW := Lib.hid (HW.out.trans (hb25.mono HB.out))
    replace HB : Hid (B ≤ w25.heap.size) := Lib.hid (Nat.le_trans HB.out hb25.size)
    clear hb25
    rw [HR0.out, hZ2] at how
    simp only at how
    obtain rfl : NR = nw := by
     obtain ⟨A9, c9, e9⟩ := how.form
     injection e9 with e1 e2 e3
     rw [← HNR.out]; exact e2.symm
    have hcw1 : (NR : Int) ≤ (cw : Int) := by have := how.rd.caps; omega
    have hcw2 : (cw : Int) ≤ 9223372036854775807 := by have := how.rd.caps; omega
    have HV := Lib.hid how
    have HO : Hid (Only w25 w25 (fun k => Z1 ≤ k ∧ k < Z2)) := Lib.hid (Only.refl _ _)
    have HGr : Hid (ShG w25 (grow (fun k => Z1 ≤ k ∧ k < Z2) w25 w25) q2 shN none 1 b_ tN_) := Lib.hid ⟨HG.out.mem.grow, HG.out.inv⟩
    have HRP : Hid (RpI shN (R0.take 0)) := Lib.hid RpI.new
    have HNUM : Hid (NumR R0) := Lib.hid (by rw [← HR0.out]; exact HWD.out.2.num)
    have HWHO : Hid (∀ r ∈ R0, 0 ≤ r.1 ∧ r.1 < 8) := Lib.hid (fun r hr => by have h1 := HWD.out.2.who r (by rw [HR0.out]; exact hr); have h2 := HWD.out.2.n4; omega)
    have HTXR : Hid (txr emp R0 = 0) := Lib.hid (by rw [← HR0.out]; exact HWD.out.2.txr)
    clear how hZ2 HG HWD
    go_upto_region 20 with (fail)
    obtain ⟨W6, hW6⟩ : ∃ W6, w25 = W6 := ⟨_, rfl⟩
    rw [hW6] at HV HO HGr HW HB HWZ
    try rw [hW6]
    have HZ2 : Hid (Z2 ≤ W6.heap.size) := Lib.hid (by rw [← hW6]; exact HZ2w.out)
    have HBW6 := HB
    clear hW6
    go_loopw [13, 14, 15, 16, 84] (fun x13 x14 x15 x16 iv wr => ∃ (j : Nat) (sj : Sh), j ≤ NR ∧ iv = .int .i64 j ∧ Hid (RpI sj (R0.take j)) ∧ Hid (ShG wr (grow (fun k => Z1 ≤ k ∧ k < Z2) W6 wr) q2 sj none 1 b_ tN_) ∧ Hid (Only W6 wr (fun k => Z1 ≤ k ∧ k < Z2)) ∧ Hid (Below B w wr) ∧ Hid (B ≤ wr.heap.size)) (fun _ _ _ _ iv _ => NR - (intOf iv).toNat)
    case atStart => exact ⟨0, shN, by omega, rfl, HRP, HGr, HO, HW, HB⟩
    case round =>
     clear HRP HGr HO HW HB
     obtain ⟨j, sj, hj, rfl, HRP, HG, HO, HW, HB⟩ := hrel
     by_cases hjt : j < NR
     · skip
       have hjl : j < R0.length := by have := HNR.out; omega
       have htk : R0.take (j + 1) = R0.take j ++ [R0[j]] := List.take_succ_eq_append_getElem hjl
       have hsp : R0 = R0.take j ++ R0[j] :: R0.drop (j + 1) := by
        rw [← List.drop_eq_getElem_cons hjl, List.take_append_drop]
       obtain ⟨b, o, A1, n1, c1, hAw, hbl, d0, d1, d2, hrd⟩ := (HV.out.farR HO.out).rd.at_ j hjt
       subst hAw
       have hj0 : (0 : Int) ≤ (j : Int) := by omega
       have hjN : (j : Int) < (NR : Int) := by omega
       have hwho := HWHO.out R0[j] (List.getElem_mem hjl)
       have hnum := HNUM.out (R0.take j) R0[j] (R0.drop (j + 1)) hsp
       have hdo : doE (R0[j]).2.2 (txt emp R0 j) = 0 := (txr_at R0 emp j hjl HTXR.out).2.1
       have hlen : (R0.take j).length = j := by rw [List.length_take]; omega
       obtain ⟨f, hf⟩ : ∃ f, R0[j] = f := ⟨_, rfl⟩
       rw [hf] at d0 d1 hrd hwho hnum htk hdo
       obtain ⟨ra, sq, d⟩ := f
       simp only at d0 d1 d2 hrd hwho hnum hdo
       obtain ⟨p, rfl⟩ := Int.eq_ofNat_of_zero_le hwho.1
       have hst := HRP.out.step p sq d (by have := hwho.2; omega) hnum (by omega) (by rw [hlen, txt_take _ _ _ _ (Nat.le_refl _)]; exact hdo)
       rw [hlen] at hst
       have HST := Lib.hid hst
       have HTK := Lib.hid htk
       have hbw : b < wr.heap.size := hbl
       have kz := Blk.new wr 30 #[.int .i64 p, .int .i64 sq, .slice A1 n1 c1]
       have hal := (Below.refl wr.heap.size wr).alloc (Nat.le_refl _) (.cells #[.int .i64 p, .int .i64 sq, .slice A1 n1 c1] 30)
       have z0 := kz.cell 0
       have z1 := kz.cell 1
       have z2 := kz.cell 2
       have lz := kz.lt
       have HRD := Lib.hid (hrd.step hal)
       have hc_ := submit_G q2 sj none _ 1 b_ tN_ (j : Int) (p : Int) sq d A1 n1 c1 (wr.alloc (.cells #[.int .i64 p, .int .i64 sq, .slice A1 n1 c1] 30)) (HG.out.below hal) HRD.out
       rw [HST.out.1, HST.out.2.1] at hc_
       have Hc_ := Lib.hid hc_
       have HAL := Lib.hid hal
       have hwr : IntKind.i64.wrap ((j : Int) + 1) = (j : Int) + 1 := IntWalk.i64_in _ (by omega)
       clear htk hsp hwho hnum hdo hf hst hrd kz hal hc_ hlen
       go_wp2_with fail
       refine Hc_.out.mono ?_
       rintro en w7 ⟨rfl, hg7, ho7⟩
       have hs7 := ho7.2.2.2.1
       have hs6 := HO.out.2.2.2.1
       have hsa := HAL.out.size
       have HO2 := Lib.hid ((HO.out.trans (Only.of_below HAL.out)).trans_grow (ho7.mono fun k _ hk => grow_mono hsa hk))
       have HG2 : Hid (ShG w7 (grow (fun k => Z1 ≤ k ∧ k < Z2) W6 w7) q2 (subS sj none (j : Int) (p : Int) sq d) none 1 b_ tN_) := Lib.hid ⟨hg7.mem.mono (fun k hk => by
        rcases hk with hk | hk
        · rcases hk with hk | hk
          · exact .inl hk
          · exact .inr ⟨hk.1, by omega⟩
        · exact .inr ⟨by omega, hk.2⟩) (fun k hk => by
        rcases hk with hk | hk
        · have := HZ2.out; omega
        · exact hk.2), hg7.inv⟩
       have HW2 : Hid (Below B w w7) := Lib.hid ((HW.out.trans (HAL.out.mono HB.out)).trans (ho7.below (Nat.le_trans HB.out hsa) (fun k hk => by
        rcases hk with hk | hk
        · have := HBZ1.out; omega
        · have := HBW6.out; omega)))
       have HB2 : Hid (B ≤ w7.heap.size) := Lib.hid (by have := HB.out; omega)
       have HRP2 : Hid (RpI (subS sj none (j : Int) (p : Int) sq d) (R0.take (j + 1))) := Lib.hid (by rw [HTK.out]; exact HST.out.2.2)
       clear Hc_ hg7 ho7 hs7 hs6 hsa HO HG HW HB HAL HRP HST
       go_wp2_with fail
       go_roundw
       case rel => exact ⟨j + 1, _, by omega, by go_num, HRP2, HG2, HO2, HW2, HB2⟩
       case measure => simp [intOf]; omega
     · skip
       obtain rfl : NR = j := by omega
       have hge : ∀ k, grow (fun k => Z1 ≤ k ∧ k < Z2) W6 wr k → Z1 ≤ k := by
        intro k hk
        rcases hk with hk | hk
        · exact hk.1
        · have := HZ2.out
          have := HZ12.out
          omega
       have hsb := ShB.of HG.out hge
       have h16 : Z1 ≤ W6.heap.size := by have := HZ2.out; have := HZ12.out; omega
       have hbz := HO.out.below h16 (fun k hk => hk.1)
       have H1B : Hid (Z1 ≤ wr.heap.size) := Lib.hid (Nat.le_trans h16 hbz.size)
       have hbz1 : Below w23.heap.size W6 wr := by rw [HZ1.out]; exact hbz
       have HWZ2 := Lib.hid (HWZ.out.trans hbz1)
       have HRP2 : Hid (RpI sj R0) := Lib.hid (by have h := HRP.out; rwa [← HNR.out, List.take_length] at h)
       have HS := Lib.hid hsb
       obtain ⟨c0x, c0y, c1x, c1y, SS, g2, hs1, hs2, hs3, hcr, hop⟩ := HRP2.out.reopen
       have Hcr := Lib.hid hcr
       have Hop := Lib.hid hop
       have HS1 := Lib.hid hs1
       have HS2 := Lib.hid hs2
       have HS3 := Lib.hid hs3
       clear hge hsb h16 hbz hbz1 hs1 hs2 hs3 hcr hop HG HO HWZ HRP HV HNUM HWHO HTXR
       have hc_ := ssync_B q2 sj none Z1 1 wr HS.out H1B.out
       have Hc_ := Lib.hid hc_
       clear hc_
       go_wp2_with fail
       refine Hc_.out.mono ?_
       rintro en v1 ⟨rfl, hs, hbz⟩
       clear Hc_ HS
       have hbz1 : Below w23.heap.size wr v1 := by rw [HZ1.out]; exact hbz
       have HWD := Lib.hid (HW1.out.below (HWZ2.out.trans hbz1))
       have HS := Lib.hid hs
       have HW_ := Lib.hid (HW.out.trans (hbz.mono HBZ1.out))
       have HB_ : Hid (B ≤ v1.heap.size) := Lib.hid (Nat.le_trans HB.out hbz.size)
       clear HW HB hs hbz hbz1 HWZ2 H1B
       have HW := HW_
       have HB := HB_
       clear HW_ HB_
       have hdk_ := sdisk_B q2 (syncG sj none) none Z1 1 v1 HS.out
       obtain ⟨DV, hDV⟩ : ∃ DV, dvl (syncG sj none).d0 (syncG sj none).d1 = DV := ⟨_, rfl⟩
       rw [hDV] at hdk_ Hcr
       have Hdk_ := Lib.hid hdk_
       clear hdk_ HS hDV
       have hc_ := Hdk_.out
       have Hc_ := Lib.hid hc_
       clear hc_
       go_wp2_with fail
       refine Hc_.out.mono ?_
       rintro en w46 ⟨rfl, hb46⟩
       clear Hc_
       replace HWD := Lib.hid (HWD.out.below hb46)
       replace HW := Lib.hid (HW.out.trans (hb46.mono HB.out))
       replace HB : Hid (B ≤ w46.heap.size) := Lib.hid (Nat.le_trans HB.out hb46.size)
       clear hb46
       clear Hdk_
       have hc_ := Hcr.out w46
       have Hc_ := Lib.hid hc_
       clear hc_
       go_wp2_with fail
       refine Hc_.out.mono ?_
       rintro en w47 ⟨rfl, hb47⟩
       clear Hc_
       replace HWD := Lib.hid (HWD.out.below hb47)
       replace HW := Lib.hid (HW.out.trans (hb47.mono HB.out))
       replace HB : Hid (B ≤ w47.heap.size) := Lib.hid (Nat.le_trans HB.out hb47.size)
       clear hb47
       clear Hcr
       have kb2 := Blk.new w47 70 #[.string c0x, .int .i64 c0y, .string c1x, .int .i64 c1y]
       have hal := (Below.refl w47.heap.size w47).alloc (Nat.le_refl _) (.cells #[.string c0x, .int .i64 c0y, .string c1x, .int .i64 c1y] 70)
       go_upto_region 28 with (fail)
       obtain ⟨gz, hgz⟩ : ∃ gz, w47.heap.size = gz := ⟨_, rfl⟩
       obtain ⟨u1, hu1⟩ : ∃ u1, w47.alloc (.cells #[.string c0x, .int .i64 c0y, .string c1x, .int .i64 c1y] 70) = u1 := ⟨_, rfl⟩
       rw [hu1] at kb2 hal ⊢
       rw [hgz] at kb2 ⊢
       have Hrow := Lib.hid (disk_row kb2 rfl)
       clear kb2 hu1 hgz
       replace HWD := Lib.hid (HWD.out.below hal)
       replace HW := Lib.hid (HW.out.trans (hal.mono HB.out))
       replace HB : Hid (B ≤ u1.heap.size) := Lib.hid (Nat.le_trans HB.out hal.size)
       clear hal
       have hc_ := Hop.out u1
       have Hc_ := Lib.hid hc_
       clear hc_ Hop
       go_wp2_with (first | (refine wpList_load_blk rfl _ (.tmp 17) rfl gz rfl _ Hrow.out ?_))
       refine Hc_.out.mono ?_
       rintro en v3 ⟨q3, rfl, hS, hb3⟩
       clear Hc_ Hrow
       replace HWD := Lib.hid (HWD.out.below hb3)
       replace HW := Lib.hid (HW.out.trans (hb3.mono HB.out))
       replace HB : Hid (B ≤ v3.heap.size) := Lib.hid (Nat.le_trans HB.out hb3.size)
       clear hb3
       have HS := Lib.hid hS
       clear hS
       obtain ⟨B3, hB3⟩ : ∃ B3, u1.heap.size = B3 := ⟨_, rfl⟩
       rw [hB3] at HS
       clear hB3
       have hhd : SS.log.base + (SS.log.revs.length : Int) = (NR : Int) := by rw [HS1.out, HS2.out, HNR.out]; omega
       have HHD := Lib.hid hhd
       clear hhd
       have hc_ := shead_B q3 SS none B3 g2 v3 HS.out
       rw [HHD.out] at hc_
       have Hc_ := Lib.hid hc_
       clear hc_
       go_wp2_with fail
       refine Hc_.out.mono ?_
       rintro en w48 ⟨rfl, hb48⟩
       clear Hc_
       replace HWD := Lib.hid (HWD.out.below hb48)
       replace HS := Lib.hid (HS.out.below hb48)
       replace HW := Lib.hid (HW.out.trans (hb48.mono HB.out))
       replace HB : Hid (B ≤ w48.heap.size) := Lib.hid (Nat.le_trans HB.out hb48.size)
       clear hb48
       obtain ⟨TX, hTX⟩ : ∃ TX, txt emp R0 NR = TX := ⟨_, rfl⟩
       have HTX := Lib.hid hTX
       clear hTX
       have hc_ := stext_B q3 SS none B3 g2 (NR : Int) NR w48 HS.out (by rw [HS1.out]; omega) (by rw [HS2.out, HNR.out]; exact Nat.le_refl _)
       rw [HS2.out, HS3.out, HTX.out] at hc_
       have Hc_ := Lib.hid hc_
       clear hc_
       go_wp2_with fail
       refine Hc_.out.mono ?_
       rintro en w49 ⟨rfl, hb49⟩
       clear Hc_
       replace HWD := Lib.hid (HWD.out.below hb49)
       replace HS := Lib.hid (HS.out.below hb49)
       replace HW := Lib.hid (HW.out.trans (hb49.mono HB.out))
       replace HB : Hid (B ≤ w49.heap.size) := Lib.hid (Nat.le_trans HB.out hb49.size)
       clear hb49
       obtain ⟨x, hx⟩ : ∃ x, X9[0]? = some x := ⟨_, List.getElem?_eq_getElem (by rw [HX9.out]; exact hN1)⟩
       have HXX := Lib.hid hx
       have hxt : x.c.text = TX := by
        obtain ⟨c1, c2, c3, c4, c5, c6⟩ := HWD.out.2.calm HCA.out hx
        rw [c3, ← HTX.out, ← HNR.out, ← HR0.out]
       have HXT := Lib.hid hxt
       clear hx hxt
       have hc_ := wtext_B HWD.out HXX.out
       rw [HXT.out] at hc_
       have Hc_ := Lib.hid hc_
       clear hc_
       go_wp2_with fail
       refine Hc_.out.mono ?_
       rintro en w50 ⟨rfl, hb50⟩
       clear Hc_
       replace HWD := Lib.hid (HWD.out.below hb50)
       replace HS := Lib.hid (HS.out.below hb50)
       replace HW := Lib.hid (HW.out.trans (hb50.mono HB.out))
       replace HB : Hid (B ≤ w50.heap.size) := Lib.hid (Nat.le_trans HB.out hb50.size)
       clear hb50
       have hc_ := srevs_B q3 SS none B3 g2 0 0 w50 HS.out (by rw [HS1.out]; rfl) (Nat.zero_le _)
       rw [HS2.out, List.drop_zero] at hc_
       have Hc_ := Lib.hid hc_
       clear hc_
       go_wp2_with fail
       refine Hc_.out.mono ?_
       rintro en w51 ⟨⟨Ar, nr, cr⟩, ssr, rfl, hor, hb51⟩
       clear Hc_
       replace HWD := Lib.hid (HWD.out.below hb51)
       replace HS := Lib.hid (HS.out.below hb51)
       replace HW := Lib.hid (HW.out.trans (hb51.mono HB.out))
       replace HB : Hid (B ≤ w51.heap.size) := Lib.hid (Nat.le_trans HB.out hb51.size)
       clear hb51
       simp only at hor
       have HOR := Lib.hid (hor.base (Nat.zero_le _))
       clear hor
       have hc_ := wrevs_B HWD.out
       rw [HR0.out] at hc_
       have Hc_ := Lib.hid hc_
       clear hc_
       go_wp2_with fail
       refine Hc_.out.mono ?_
       rintro en w52 ⟨⟨Aw2, nw2, cw2⟩, ssw2, rfl, how, hb52⟩
       clear Hc_
       replace HWD := Lib.hid (HWD.out.below hb52)
       replace HS := Lib.hid (HS.out.below hb52)
       replace HOR := Lib.hid (HOR.out.below hb52)
       replace HW := Lib.hid (HW.out.trans (hb52.mono HB.out))
       replace HB : Hid (B ≤ w52.heap.size) := Lib.hid (Nat.le_trans HB.out hb52.size)
       clear hb52
       simp only at how
       have HOW := Lib.hid (how.base (Nat.zero_le _))
       clear how
       have hc_ := samerevs_true R0 Ar Aw2 nr nw2 cr cw2 w52 HOR.out.rd HOW.out.rd
       have Hc_ := Lib.hid hc_
       clear hc_
       go_wp2_with fail
       refine Hc_.out.mono ?_
       rintro en w53 ⟨rfl, hb53⟩
       clear Hc_
       replace HWD := Lib.hid (HWD.out.below hb53)
       replace HS := Lib.hid (HS.out.below hb53)
       replace HOR := Lib.hid (HOR.out.below hb53)
       replace HOW := Lib.hid (HOW.out.below hb53)
       replace HW := Lib.hid (HW.out.trans (hb53.mono HB.out))
       replace HB : Hid (B ≤ w53.heap.size) := Lib.hid (Nat.le_trans HB.out hb53.size)
       clear hb53
       go_wp2_with fail
       go_ret
       exact ⟨rfl, HBw.out ▸ HW.out⟩
end Go.Proofs.Ytokngfinnieccaa
