/- Contract of meet.Of. Written by gen_meet.py. -/
import Derived.Test.YtokngfinnieccaaO7
namespace Go.Proofs.Ytokngfinnieccaa
open Go.ChangeShapes Go.WideShapes Go.RowKit
set_option linter.unusedVariables false
set_option linter.unusedSimpArgs false
set_option maxRecDepth 100000
set_option maxHeartbeats 4000000
structure MS (w0 : World) (B gp gq gx gy : Nat) (w : World) (op oq : Option Nat) (p q : List U) (lx : List Pt) (ux : Nat) (ly : List Pt) (uy : Nat) : Prop where
 p : Mk w B gp op p
 q : Mk w B gq oq q
 x : Wk w B gx lx ux
 y : Wk w B gy ly uy
 dp : gp ≠ gq ∧ gp ≠ gx ∧ gp ≠ gy
 dq : gq ≠ gx ∧ gq ≠ gy
 xy : gx ≠ gy
 hp : ∀ k, op = some k → k ≠ gq ∧ k ≠ gx ∧ k ≠ gy ∧ oq ≠ some k
 hq : ∀ k, oq = some k → k ≠ gp ∧ k ≠ gx ∧ k ≠ gy
 b : Below B w0 w
 B0 : B ≤ gp ∧ B ≤ gq
section
variable {w0 w w' : World} {B gp gq gx gy ux uy ux' uy' : Nat} {op oq ob' : Option Nat} {p q told' : List U} {lx ly lx' ly' : List Pt}
theorem MS.size (h : MS w0 B gp gq gx gy w op oq p q lx ux ly uy) : B ≤ w.heap.size := by have := h.p.lt; have := h.B0; omega
theorem MS.drawn (h : MS w0 B gp gq gx gy w op oq p q lx ux ly uy) (hs : WS w w') : MS w0 B gp gq gx gy w' op oq p q lx ux ly uy := by
 obtain ⟨n, rfl⟩ := hs
 have ho : Only w (w.drewN n) (fun _ => False) := Only.drewN w n
 exact ⟨h.p.only ho (fun h => h) fun _ _ h => h, h.q.only ho (fun h => h) fun _ _ h => h, h.x.drewN n, h.y.drewN n, h.dp, h.dq, h.xy, h.hp, h.hq, below_drewN_ h.b n, h.B0⟩
theorem MS.takex (h : MS w0 B gp gq gx gy w op oq p q lx ux ly uy) (hw : Wk w' B gx lx' ux') (ho : Only w w' (fun k => k = gx)) : MS w0 B gp gq gx gy w' op oq p q lx' ux' ly uy := by
 have hb : Below B w w' := ho.below h.size fun k hk => by rw [hk]; exact h.x.1
 exact ⟨h.p.only ho h.dp.2.1 fun k hk => (h.hp k hk).2.1, h.q.only ho h.dq.1 fun k hk => (h.hq k hk).2.1, hw, h.y.only ho (Ne.symm h.xy) hb, h.dp, h.dq, h.xy, h.hp, h.hq, h.b.trans hb, h.B0⟩
theorem MS.takey (h : MS w0 B gp gq gx gy w op oq p q lx ux ly uy) (hw : Wk w' B gy ly' uy') (ho : Only w w' (fun k => k = gy)) : MS w0 B gp gq gx gy w' op oq p q lx ux ly' uy' := by
 have hb : Below B w w' := ho.below h.size fun k hk => by rw [hk]; exact h.y.1
 exact ⟨h.p.only ho h.dp.2.2 fun k hk => (h.hp k hk).2.2.1, h.q.only ho h.dq.2 fun k hk => (h.hq k hk).2.2, h.x.only ho h.xy hb, hw, h.dp, h.dq, h.xy, h.hp, h.hq, h.b.trans hb, h.B0⟩
theorem MS.mkp (h : MS w0 B gp gq gx gy w op oq p q lx ux ly uy) (hm : Mk w' B gp ob' told') (hf : MFr w w' gp op ob') : MS w0 B gp gq gx gy w' ob' oq told' q lx ux ly uy := by
 have hb : Below B w w' := hf.below_ h.size h.B0.1 fun k hk => (h.p.ge k hk).1
 refine ⟨hm, h.q.only hf.1 ?_ ?_, h.x.only hf.1 ?_ hb, h.y.only hf.1 ?_ hb, h.dp, h.dq, h.xy, ?_, h.hq, h.b.trans hb, h.B0⟩
 · rintro (e | e)
   · exact h.dp.1 e.symm
   · exact (h.hp _ e).1 rfl
 · rintro k hk (e | e)
   · exact (h.hq k hk).1 e
   · exact (h.hp k e).2.2.2 hk
 · rintro (e | e)
   · exact h.dp.2.1 e.symm
   · exact (h.hp _ e).2.1 rfl
 · rintro (e | e)
   · exact h.dp.2.2 e.symm
   · exact (h.hp _ e).2.2.1 rfl
 · intro k hk
   rcases hf.2 with e | e
   · exact h.hp k (by rw [← e]; exact hk)
   · have := e k hk
     have h1 := h.x.lt
     have h2 := h.y.lt
     have h3 := h.q.lt
     refine ⟨by omega, by omega, by omega, fun h4 => ?_⟩
     have := (h.q.ge k h4).2.1
     omega
theorem MS.mkq (h : MS w0 B gp gq gx gy w op oq p q lx ux ly uy) (hm : Mk w' B gq ob' told') (hf : MFr w w' gq oq ob') : MS w0 B gp gq gx gy w' op ob' p told' lx ux ly uy := by
 have hb : Below B w w' := hf.below_ h.size h.B0.2 fun k hk => (h.q.ge k hk).1
 refine ⟨h.p.only hf.1 ?_ ?_, hm, h.x.only hf.1 ?_ hb, h.y.only hf.1 ?_ hb, h.dp, h.dq, h.xy, ?_, ?_, h.b.trans hb, h.B0⟩
 · rintro (e | e)
   · exact h.dp.1 e
   · exact (h.hq _ e).1 rfl
 · rintro k hk (e | e)
   · exact (h.hp k hk).1 e
   · exact (h.hp k hk).2.2.2 e
 · rintro (e | e)
   · exact h.dq.1 e.symm
   · exact (h.hq _ e).2.1 rfl
 · rintro (e | e)
   · exact h.dq.2 e.symm
   · exact (h.hq _ e).2.2 rfl
 · intro k hk
   have h0 := h.hp k hk
   refine ⟨h0.1, h0.2.1, h0.2.2.1, fun h4 => ?_⟩
   rcases hf.2 with e | e
   · exact h0.2.2.2 (by rw [← e]; exact h4)
   · have := e k h4
     have := (h.p.ge k hk).2.1
     omega
 · intro k hk
   rcases hf.2 with e | e
   · exact h.hq k (by rw [← e]; exact hk)
   · have := e k hk
     have h1 := h.x.lt
     have h2 := h.y.lt
     have h3 := h.p.lt
     exact ⟨by omega, by omega, by omega⟩
theorem MS.mkp1 (h : MS w0 B gp gq gx gy w op oq p q lx ux ly uy) (hm : Mk w' B gp op told') (hf : Only w w' (fun k => k = gp ∨ op = some k)) : MS w0 B gp gq gx gy w' op oq told' q lx ux ly uy := h.mkp hm ⟨hf, .inl rfl⟩
theorem MS.mkq1 (h : MS w0 B gp gq gx gy w op oq p q lx ux ly uy) (hm : Mk w' B gq oq told') (hf : Only w w' (fun k => k = gq ∨ oq = some k)) : MS w0 B gp gq gx gy w' op oq p told' lx ux ly uy := h.mkq hm ⟨hf, .inl rfl⟩
end
def ResP2 (w w' : World) (e : Ending) (er : Int) (l l' : List Pt) : Prop := ∃ v v', e = .returned (.tuple #[v, v', .int .i64 er]) ∧ OwnP w' w.heap.size v l ∧ OwnP w' w.heap.size v' l' ∧ (∀ k, v.ownBlock = some k → v'.ownBlock ≠ some k) ∧ Below w.heap.size w w'
theorem ResP2.err (w : World) {w' : World} (er : Int) (hb : Below w.heap.size w w') : ResP2 w w' (.returned (.tuple #[.slice none 0 0, .slice none 0 0, .int .i64 er])) er [] [] := ⟨_, _, rfl, OwnP.nil _ _, OwnP.nil _ _, by simp [Value.ownBlock], hb⟩
theorem ResP2.rd {w w' : World} {e : Ending} {er : Int} {l l' : List Pt} (h : ResP2 w w' e er l l') (ht : ∀ p ∈ l, p.2.2.size ≤ 140737488351232) (ht' : ∀ p ∈ l', p.2.2.size ≤ 140737488351232) :
 ∃ A c A' c', e = .returned (.tuple #[.slice A l.length c, .slice A' l'.length c', .int .i64 er]) ∧ RdP w' w'.heap.size A l.length c l ∧ RdP w' w'.heap.size A' l'.length c' l' ∧ Below w.heap.size w w' := by
 obtain ⟨v, v', rfl, ho, ho', _, hb⟩ := h
 obtain ⟨A, c, rfl, hr⟩ := ho.rd ht
 obtain ⟨A', c', rfl, hr'⟩ := ho'.rd ht'
 exact ⟨A, c, A', c', rfl, hr, hr', hb⟩
def preE (a b : List Pt) : Int := if chk a ≠ 0 then chk a else if chk b ≠ 0 then chk b else if nI (units a) ≠ nI (units b) then 4 else 0
theorem preE_zero {a b : List Pt} (h : preE a b = 0) : chk a = 0 ∧ chk b = 0 ∧ nI (units a) = nI (units b) ∧ meetE a b = (if chk (meet1 a b) ≠ 0 then chk (meet1 a b) else chk (meet2 a b)) := by
 unfold preE at h
 split at h
 · omega
 · split at h
   · omega
   · split at h
     · omega
     · refine ⟨by omega, by omega, by omega, ?_⟩
       unfold meetE
       rw [if_neg (by omega), if_neg (by omega), if_neg (by omega)]
theorem preE_err {a b : List Pt} (h : preE a b ≠ 0) : meetE a b = preE a b := by
 unfold preE meetE at *
 split
 · rfl
 · split
   · rfl
   · split
     · rfl
     · simp_all
theorem meet_pre (a b : List Pt) (A A' : Option Addr) (n n' c c' : Nat) (w : World) (h : RdP w w.heap.size A n c a) (h' : RdP w w.heap.size A' n' c' b) (he : preE a b ≠ 0) :
 Calls Try.prog 93 #[.slice A n c, .slice A' n' c'] w fun e w' => ResP2 w w' e (meetE a b) (meetC a b) (meetD a b) := by
 have he' : meetE a b ≠ 0 := by rw [preE_err he]; exact he
 rw [(meet_err he').1, (meet_err he').2, preE_err he]
 have Ha := Lib.hid h
 have Hb := Lib.hid h'
 clear h h' he'
 by_cases h1 : chk a = 0
 · by_cases h2 : chk b = 0
   · have h3 : nI (units a) ≠ nI (units b) := fun h => he (by unfold preE; rw [if_neg (by omega), if_neg (by omega), if_neg (by omega)])
     have e4 : preE a b = 4 := by unfold preE; rw [if_neg (by omega), if_neg (by omega), if_pos h3]
     rw [e4]
     have h4 : ((nI (units a) : Int) != (nI (units b) : Int)) = true := by simp; omega
     have H1 := Lib.hid h1
     have H2 := Lib.hid h2
     clear he e4 h1 h2 h3
     go_enter Try.func93, Try.ntmps93
     go_wp2_with fail
     refine (psizes_good a A n c _ _ Ha.out (Nat.le_refl _) H1.out).mono ?_
     rintro e w1 ⟨rfl, hb1⟩
     have Hb1 := Lib.hid (Hb.out.step hb1)
     go_wp2_with fail
     refine (psizes_good b A' n' c' _ _ Hb1.out (Nat.le_refl _) H2.out).mono ?_
     rintro e w2 ⟨rfl, hb2⟩
     have hw2 := hb1.trans (hb2.mono hb1.size)
     clear hb1 hb2
     go_wp2_with fail
     go_ret3
     exact ResP2.err w 4 hw2
   · have e4 : preE a b = chk b := by unfold preE; rw [if_neg (by omega), if_pos h2]
     rw [e4]
     have h4 : ((chk b) != 0) = true := by simpa using h2
     have H1 := Lib.hid h1
     have H2 := Lib.hid h2
     clear he e4 h1 h2
     go_enter Try.func93, Try.ntmps93
     go_wp2_with fail
     refine (psizes_good a A n c _ _ Ha.out (Nat.le_refl _) H1.out).mono ?_
     rintro e w1 ⟨rfl, hb1⟩
     have Hb1 := Lib.hid (Hb.out.step hb1)
     go_wp2_with fail
     refine (psizes_err b A' n' c' _ _ Hb1.out (Nat.le_refl _) H2.out).mono ?_
     rintro e w2 ⟨rfl, hb2⟩
     have hw2 := hb1.trans (hb2.mono hb1.size)
     clear hb1 hb2
     go_wp2_with fail
     go_ret3
     exact ResP2.err w _ hw2
 · have e4 : preE a b = chk a := by unfold preE; rw [if_pos h1]
   rw [e4]
   have h4 : ((chk a) != 0) = true := by simpa using h1
   have H1 := Lib.hid h1
   clear he e4 h1
   go_enter Try.func93, Try.ntmps93
   go_wp2_with fail
   refine (psizes_err a A n c _ _ Ha.out (Nat.le_refl _) H1.out).mono ?_
   rintro e w1 ⟨rfl, hb1⟩
   go_wp2_with fail
   go_ret3
   exact ResP2.err w _ hb1
theorem meet_post (a b : List Pt) (A A' : Option Addr) (n n' c c' : Nat) (w : World) (h : RdP w w.heap.size A n c a) (h' : RdP w w.heap.size A' n' c' b) (he : preE a b = 0) :
 Calls Try.prog 93 #[.slice A n c, .slice A' n' c'] w fun e w' => ResP2 w w' e (meetE a b) (meetC a b) (meetD a b) := by
 obtain ⟨h1, h2, h3, h4⟩ := preE_zero he
 have hne : ((nI (units a) : Int) != (nI (units b) : Int)) = false := by simp; omega
 have Ha := Lib.hid h
 have Hb := Lib.hid h'
 have H1 := Lib.hid h1
 have H2 := Lib.hid h2
 have HE := Lib.hid h4
 have hl : (mt (units a) (units b)).1.length ≤ 2000 ∧ (mt (units a) (units b)).2.length ≤ 2000 := by
  have q1 := len_sizes (mt (units a) (units b)).1
  have q2 := len_sizes (mt (units a) (units b)).2
  have q3 := nI_mt (units a) (units b) h3
  have q4 := nO_mt (units a) (units b) h3
  have q5 := (chk_parts h1).2.2.2.2.1
  have q6 := (chk_parts h2).2.2.2.2.1
  have q7 := nP_le (units b)
  omega
 have hmi : MI [] [] (rem a 0) (rem b 0) (mt (units a) (units b)).1 (mt (units a) (units b)).2 := ⟨rfl, rfl, h3⟩
 obtain ⟨P, hP⟩ : ∃ P, (mt (units a) (units b)).1 = P := ⟨_, rfl⟩
 obtain ⟨Q, hQ⟩ : ∃ Q, (mt (units a) (units b)).2 = Q := ⟨_, rfl⟩
 have e1 : meet1 a b = grp (cz P) := by unfold meet1; rw [hP]
 have e2 : meet2 a b = grp (cz Q) := by unfold meet2; rw [hQ]
 rw [hP, hQ] at hl hmi
 have Hl := Lib.hid hl
 have Hmi := Lib.hid hmi
 obtain ⟨O1, hO1⟩ : ∃ O, meet1 a b = O := ⟨_, rfl⟩
 obtain ⟨O2, hO2⟩ : ∃ O, meet2 a b = O := ⟨_, rfl⟩
 have Ht1 : Hid (grp (cz P) = O1 ∧ ∀ p ∈ O1, p.2.2.size ≤ 140737488351232) := Lib.hid ⟨by rw [← e1, hO1], by
  rw [← hO1, e1]
  intro p hp
  have := text_le (fine_grp _) p hp
  rw [units_grp, len_cz] at this
  omega⟩
 have Ht2 : Hid (grp (cz Q) = O2 ∧ ∀ p ∈ O2, p.2.2.size ≤ 140737488351232) := Lib.hid ⟨by rw [← e2, hO2], by
  rw [← hO2, e2]
  intro p hp
  have := text_le (fine_grp _) p hp
  rw [units_grp, len_cz] at this
  omega⟩
 have Hr : Hid ((chk O1 ≠ 0 → meetE a b = chk O1 ∧ meetC a b = [] ∧ meetD a b = []) ∧ (chk O1 = 0 → chk O2 ≠ 0 → meetE a b = chk O2 ∧ meetC a b = [] ∧ meetD a b = []) ∧ (chk O1 = 0 → chk O2 = 0 → meetE a b = 0 ∧ meetC a b = O1 ∧ meetD a b = O2)) := Lib.hid (by
  rw [hO1, hO2] at h4
  refine ⟨fun q1 => ?_, fun q1 q2 => ?_, fun q1 q2 => ?_⟩
  · rw [if_pos q1] at h4
    exact ⟨h4, (meet_err (by rw [h4]; exact q1)).1, (meet_err (by rw [h4]; exact q1)).2⟩
  · rw [if_neg (by omega)] at h4
    exact ⟨h4, (meet_err (by rw [h4]; exact q2)).1, (meet_err (by rw [h4]; exact q2)).2⟩
  · rw [if_neg (by omega), q2] at h4
    have hc := meet_chk h4
    exact ⟨h4, by rw [hc.2.2.2.2.2.1, hO1], by rw [hc.2.2.2.2.2.2, hO2]⟩)
 obtain ⟨E, hE⟩ : ∃ E, meetE a b = E := ⟨_, rfl⟩
 obtain ⟨C, hC⟩ : ∃ C, meetC a b = C := ⟨_, rfl⟩
 obtain ⟨D, hD⟩ : ∃ D, meetD a b = D := ⟨_, rfl⟩
 rw [hE, hC, hD] at Hr ⊢
 have hww := Below.refl w.heap.size w
 clear h h' he h1 h2 h3 h4 hl hmi hP hQ e1 e2 hO1 hO2 hE hC hD HE
 go_enter Try.func93, Try.ntmps93
 go_wp2_with fail
 refine (psizes_good a A n c _ _ Ha.out (Nat.le_refl _) H1.out).mono ?_
 rintro e w1 ⟨rfl, hb1⟩
 have hc1 := hww.trans hb1
 go_wp2_with fail
 refine (psizes_good b A' n' c' w.heap.size _ (Hb.out.below hc1) hc1.size H2.out).mono ?_
 rintro e w2 ⟨rfl, hb2⟩
 have hc2 := hc1.trans (hb2.mono hc1.size)
 have Hc2 := Lib.hid hc2
 have hsz2 := hc2.size
 clear hww hb1 hb2 hc1 hc2
 have hbm := ((Hc2.out).alloc hsz2 (.cells #[.slice none 0 0, .string ⟨#[]⟩, .int .i64 0] 105)).alloc ((Hc2.out).alloc hsz2 (.cells #[.slice none 0 0, .string ⟨#[]⟩, .int .i64 0] 105)).size (.cells #[.slice none 0 0, .string ⟨#[]⟩, .int .i64 0] 105)
 have hmp : Mk ((w2.alloc (.cells #[.slice none 0 0, .string ⟨#[]⟩, .int .i64 0] 105)).alloc (.cells #[.slice none 0 0, .string ⟨#[]⟩, .int .i64 0] 105)) w.heap.size w2.heap.size none [] :=
  Mk.alloc ⟨[], emp, 0, ⟨_, Blk.new w2 _ _, OwnP.nil _ _, rfl⟩, MRep.new⟩ _
 have hmq : Mk ((w2.alloc (.cells #[.slice none 0 0, .string ⟨#[]⟩, .int .i64 0] 105)).alloc (.cells #[.slice none 0 0, .string ⟨#[]⟩, .int .i64 0] 105)) w.heap.size (w2.heap.size + 1) none [] := by
  have := Blk.new (w2.alloc (.cells #[.slice none 0 0, .string ⟨#[]⟩, .int .i64 0] 105)) 105 #[.slice none 0 0, .string ⟨#[]⟩, .int .i64 0]
  rw [World.size_alloc] at this
  exact ⟨[], emp, 0, ⟨_, this, OwnP.nil _ _, rfl⟩, MRep.new⟩
 have Hmp := Lib.hid hmp
 have Hmq := Lib.hid hmq
 have Hbm := Lib.hid hbm
 clear hmp hmq hbm
 go_wp2_with fail
 refine (walk_any a A n c w.heap.size _ (Ha.out.below Hbm.out) Hbm.out.size H1.out).mono ?_
 rintro e w3 ⟨rfl, hx, hb3, hs3⟩
 have hc3 := Hbm.out.trans (hb3.mono Hbm.out.size)
 have Hmp3 := Lib.hid (Hmp.out.only (S := fun _ => False) (Only.of_below hb3) (fun h => h) fun _ _ h => h)
 have Hmq3 := Lib.hid (Hmq.out.only (S := fun _ => False) (Only.of_below hb3) (fun h => h) fun _ _ h => h)
 have Hx := Lib.hid hx
 have Hc3 := Lib.hid hc3
 clear hx hb3 hc3 Hmp Hmq Hbm
 rw [World.size_alloc, World.size_alloc] at hs3
 go_wp2_with fail
 refine (walk_any b A' n' c' w.heap.size _ (Hb.out.below Hc3.out) Hc3.out.size H2.out).mono ?_
 rintro e w4 ⟨rfl, hy, hb4, hs4⟩
 have hc4 := Hc3.out.trans (hb4.mono Hc3.out.size)
 have hms : MS w w.heap.size w2.heap.size (w2.heap.size + 1) (w2.heap.size + 1 + 1) w3.heap.size w4 none none [] [] a 0 b 0 := by
  have ho : Only w3 w4 (fun _ => False) := Only.of_below hb4
  refine ⟨Hmp3.out.only ho (fun h => h) fun _ _ h => h, Hmq3.out.only ho (fun h => h) fun _ _ h => h, ?_, hy, ⟨by omega, by omega, by omega⟩, ⟨by omega, by omega⟩, by omega, by simp, by simp, hc4, ⟨by omega, by omega⟩⟩
  have hx2 := Hx.out
  rw [World.size_alloc, World.size_alloc] at hx2
  exact hx2.only ho (fun h => h) (hb4.mono (by omega))
 have HS0 := Lib.hid hms
 clear hms hy hb4 hs4 hc4 Hx Hmp3 Hmq3 Hc3
 obtain ⟨gp, hgp⟩ : ∃ g, g = w2.heap.size := ⟨_, rfl⟩
 rw [← hgp] at HS0 hs3 ⊢
 obtain ⟨gq, hgq⟩ : ∃ g, g = gp + 1 := ⟨_, rfl⟩
 rw [← hgq] at HS0 hs3 ⊢
 obtain ⟨gx, hgx⟩ : ∃ g, g = gq + 1 := ⟨_, rfl⟩
 rw [← hgx] at HS0 hs3
 obtain ⟨gy, hgy⟩ : ∃ g, g = w3.heap.size := ⟨_, rfl⟩
 rw [← hgy] at HS0 ⊢
 try rw [hgx.symm]
 clear hs3 hgp hgq hgx hgy
 go_wp2_with fail
 go_loopw [16, 17, 18, 19, 20] (fun v1 v2 v3 v4 v5 wr => ∃ op oq p q lx ux ly uy, Hid (MS w w.heap.size gp gq gx gy wr op oq p q lx ux ly uy) ∧ Hid (MI p q (rem lx ux) (rem ly uy) P Q)) (fun _ _ _ _ _ wr => far wr gx + far wr gy)
 case atStart => exact ⟨_, _, _, _, _, _, _, _, HS0, Hmi⟩
 case round =>
  obtain ⟨op, oq, p, q, lx, ux, ly, uy, HS, HC⟩ := hrel
  have hfar : far wr gx = lx.length * 501 - ux ∧ far wr gy = ly.length * 501 - uy := ⟨far_wk HS.out.x, far_wk HS.out.y⟩
  have HF := Lib.hid hfar
  have htl : p.length ≤ 2000 ∧ q.length ≤ 2000 := by have := HC.out.len; have := Hl.out; omega
  have HT := Lib.hid htl
  clear hfar htl
  have hbx : ∀ p ∈ lx, _ := fun p hp => fit_bounds p (HS.out.x.fit p hp)
  have hby : ∀ p ∈ ly, _ := fun p hp => fit_bounds p (HS.out.y.fit p hp)
  have hux : ∀ p r, lx = p :: r → ux < lenP p := HS.out.x.ok.2.2
  have huy : ∀ p r, ly = p :: r → uy < lenP p := HS.out.y.ok.2.2
  have hsx : ∀ p ∈ lx, Shape p := HS.out.x.ok.1
  have hsy : ∀ p ∈ ly, Shape p := HS.out.y.ok.1
  rcases lx with _ | ⟨⟨kd, N, t⟩, rx⟩
  · have hux0 : ux = 0 := HS.out.x.ok.2.1 rfl
    subst hux0
    rcases ly with _ | ⟨⟨kd', M, t⟩, ry⟩
    · have huy0 : uy = 0 := HS.out.y.ok.2.1 rfl
      subst huy0
      obtain ⟨hp, hq⟩ := HC.out.fin
      subst hp hq
      clear hbx hby hux huy hsx hsy
      go_wp2_with fail
      refine (wkind_eq 0 rfl HS.out.x).mono ?_
      rintro e wk ⟨rfl, rfl⟩
      go_wp2_with fail
      refine (wkind_eq 0 rfl HS.out.y).mono ?_
      rintro e wk ⟨rfl, rfl⟩
      go_wp2_with fail
      refine (mdone_any HS.out.p (by have := HT.out; omega) HS.out.size).mono ?_
      rintro e w5 ⟨v1, ob1, rfl, ho1, hob1, hf1⟩
      have hb5 : Below w.heap.size w w5 := HS.out.b.trans (hf1.below_ HS.out.size HS.out.B0.1 fun k hk => (HS.out.p.ge k hk).1)
      have Hq5 : Hid (Mk w5 w.heap.size gq oq q) := Lib.hid (HS.out.q.only hf1.1 (by
       rintro (e | e)
       · exact HS.out.dp.1 e.symm
       · exact (HS.out.hp _ e).1 rfl) (by
       rintro k hk (e | e)
       · exact (HS.out.hq k hk).1 e
       · exact (HS.out.hp k e).2.2.2 hk))
      have Hd1 : Hid (∀ k, v1.ownBlock = some k → k ≠ gq ∧ oq ≠ some k) := Lib.hid fun k hk => by
       rw [hob1] at hk
       rcases hf1.2 with e | e
       · rw [e] at hk
         exact ⟨(HS.out.hp k hk).1, (HS.out.hp k hk).2.2.2⟩
       · have h1 := e k hk
         have h2 := HS.out.q.lt
         exact ⟨by omega, fun h4 => by have := (HS.out.q.ge k h4).2.1; omega⟩
      rw [Ht1.out.1] at ho1
      obtain ⟨A5, c5, rfl⟩ := ho1.form
      have Ho1 := Lib.hid ho1
      clear ho1 hf1 hob1
      go_wp2_with fail
      refine (mdone_any Hq5.out (by have := HT.out; omega) hb5.size).mono ?_
      rintro e w6 ⟨v2, ob2, rfl, ho2, hob2, hf2⟩
      have hb6 : Below w.heap.size w w6 := hb5.trans (hf2.below_ hb5.size HS.out.B0.2 fun k hk => (Hq5.out.ge k hk).1)
      rw [Ht2.out.1] at ho2
      have ho1 : OwnP w6 w.heap.size (.slice A5 O1.length c5) O1 := own_only Ho1.out hf2.1 fun k hk => by
       rintro (e | e)
       · exact (Hd1.out k hk).1 e
       · exact (Hd1.out k hk).2 e
      have hdis : ∀ k, (Value.slice A5 O1.length c5).ownBlock = some k → v2.ownBlock ≠ some k := fun k hk h2 => by
       rw [hob2] at h2
       rcases hf2.2 with e | e
       · rw [e] at h2; exact (Hd1.out k hk).2 h2
       · have h3 := e k h2
         have h4 := own_lt Ho1.out k hk
         omega
      obtain ⟨A6, c6, rfl⟩ := ho2.form
      obtain ⟨A7, c7, e7, hr1⟩ := ho1.rd Ht1.out.2
      obtain ⟨A8, c8, e8, hr2⟩ := ho2.rd Ht2.out.2
      injection e7 with e71 e72 e73
      injection e8 with e81 e82 e83
      subst e71 e73 e81 e83
      have Ho1' := Lib.hid ho1
      have Ho2 := Lib.hid ho2
      have Hdis := Lib.hid hdis
      have Hr1 := Lib.hid hr1
      have Hr2 := Lib.hid hr2
      clear ho1 ho2 hdis hr1 hr2 hob2 hf2 Ho1 Hd1 Hq5 e72 e82
      go_wp2_with fail
      refine (chk_any O1 A5 _ c5 _ _ Hr1.out (Nat.le_refl _)).mono ?_
      rintro e w7 ⟨rfl, hb7⟩
      have hc7 := hb6.trans (hb7.mono hb6.size)
      have Ho17 := Lib.hid (Ho1'.out.below hb7)
      have Ho27 := Lib.hid (Ho2.out.below hb7)
      have Hr27 := Lib.hid (Hr2.out.step hb7)
      clear hb7
      by_cases h10 : chk O1 = 0
      · rw [h10]
        have H10 := Lib.hid h10
        clear h10
        go_wp2_with fail
        refine (chk_any O2 A6 _ c6 _ _ Hr27.out (Nat.le_refl _)).mono ?_
        rintro e w8 ⟨rfl, hb8⟩
        have hc8 := hc7.trans (hb8.mono hc7.size)
        have Ho18 := Lib.hid (Ho17.out.below hb8)
        have Ho28 := Lib.hid (Ho27.out.below hb8)
        clear hb8
        by_cases h20 : chk O2 = 0
        · obtain ⟨q1, q2, q3⟩ := Hr.out.2.2 H10.out h20
          rw [h20]
          subst q1 q2 q3
          clear h20
          go_wp2_with fail
          go_ret3
          exact ⟨_, _, rfl, Ho18.out, Ho28.out, Hdis.out, hc8⟩
        · obtain ⟨q1, q2, q3⟩ := Hr.out.2.1 H10.out h20
          have hne2 : (chk O2 != 0) = true := by simpa using h20
          subst q2 q3
          rw [← q1] at hne2 ⊢
          clear h20 q1
          go_wp2_with fail
          go_ret3
          exact ResP2.err w _ hc8
      · obtain ⟨q1, q2, q3⟩ := Hr.out.1 h10
        have hne2 : (chk O1 != 0) = true := by simpa using h10
        subst q2 q3
        rw [← q1] at hne2 ⊢
        clear h10 q1
        go_wp2_with fail
        go_ret3
        exact ResP2.err w _ hc7
    · rcases hby _ (List.mem_cons_self ..) with ⟨rfl | rfl, hm1, hm2, rfl⟩ | ⟨rfl, rfl, hm1, hm2⟩
      · exfalso
        have q1 := HC.out.2.2
        have q2 := (nI_rem_keep (r := ry) (hsy _ (List.mem_cons_self ..)) (huy _ _ rfl)).1
        rw [← q1] at q2
        exact absurd q2 (by simp [rem, units, nI])
      · exfalso
        have q1 := HC.out.2.2
        have q2 := nI_rem_cut (r := ry) (hsy _ (List.mem_cons_self ..)) (huy _ _ rfl)
        rw [← q1] at q2
        exact absurd q2 (by simp [rem, units, nI])
      · skip
        have hu := huy _ _ rfl
        have hs := hsy _ (List.mem_cons_self ..)
        have hl : lenP ((2, 0, t) : Pt) = t.size := rfl
        rw [hl] at hu
        have hnc : ∀ c r', rem [] 0 ≠ some (some c) :: r' := by intro c r' e; simp [rem, units] at e
        have Hnc := Lib.hid hnc
        clear hnc
        clear hbx hby hux huy hsx hsy
        go_wp2_with fail
        refine (wkind_eq 0 rfl HS.out.x).mono ?_
        rintro e wk ⟨rfl, rfl⟩
        go_wp2_with fail
        refine (wkind_eq 2 rfl HS.out.y).mono ?_
        rintro e wk ⟨rfl, rfl⟩
        go_wp2_with fail
        refine (wkind_eq 0 rfl HS.out.x).mono ?_
        rintro e wk ⟨rfl, rfl⟩
        go_wp2_with fail
        refine (wkind_eq 2 rfl HS.out.y).mono ?_
        rintro e wk ⟨rfl, rfl⟩
        go_wp2_with fail
        refine (wleft_any _ _ uy _ gy _ HS.out.y).mono ?_
        rintro e w5 ⟨rfl, hws⟩
        have HS1 := Lib.hid (HS.out.drawn hws)
        clear hws
        obtain ⟨k, hk⟩ : ∃ k, lenP ((2, 0, t) : Pt) - uy = k := ⟨_, rfl⟩
        rw [hk]
        rw [hl] at hk
        have hk1 : 1 ≤ k := by omega
        have hk2 : uy + k ≤ t.size := by omega
        clear hk
        go_wp2_with fail
        refine (wtake_any _ _ uy k _ gy _ HS1.out.y (by rw [hl]; exact hk2)).mono ?_
        rintro e w6 ⟨rfl, hx2, ho2⟩
        have HS2 := Lib.hid (HS1.out.takey hx2 ho2)
        clear hx2 ho2
        rw [show tk (2, 0, t) uy k = t.extract uy (uy + k) from rfl]
        obtain ⟨z, hz⟩ : ∃ z, t.extract uy (uy + k) = z := ⟨_, rfl⟩
        rw [hz]
        have hel : (z.size : Int) ≤ 500 := by rw [← hz, ext_len hk2]; omega
        have Hz := Lib.hid hz
        clear hz
        go_wp2_with fail
        refine (mput_any _ HS2.out.q (by have := HT.out; omega) (by omega)).mono ?_
        rintro e wc2 ⟨rfl, hm3, hf3⟩
        have HS3 := Lib.hid (HS2.out.mkq1 hm3 hf3)
        clear hm3 hf3
        go_wp2_with fail
        refine (mkeep_any (z.size : Int) HS3.out.p (by have := HT.out; omega) HS3.out.size (by omega) (by omega)).mono ?_
        rintro e wc3 ⟨rfl, op3, hm3, hf3⟩
        have HS4 := Lib.hid (HS3.out.mkp hm3 hf3)
        clear hm3 hf3
        go_wp2_with fail
        go_roundw
        case rel => exact ⟨op3, oq, _, _, _, _, _, _, HS4, Lib.hid (by have q := mstep_y HC.out Hnc.out hs hk2; rw [Hz.out] at q; exact q)⟩
        case measure =>
         have q1 := HF.out
         rw [far_wk HS4.out.x, far_wk HS4.out.y, q1.1, q1.2]
         have q3 := far_adv HS.out.y hk1 (by rw [hl]; exact hk2)
         omega
  · rcases hbx _ (List.mem_cons_self ..) with ⟨rfl | rfl, hn1, hn2, rfl⟩ | ⟨rfl, rfl, hn1, hn2⟩
    · skip
      rcases ly with _ | ⟨⟨kd', M, t⟩, ry⟩
      · exfalso
        have huy0 : uy = 0 := HS.out.y.ok.2.1 rfl
        subst huy0
        have q1 := HC.out.2.2
        have q2 := (nI_rem_keep (r := rx) (hsx _ (List.mem_cons_self ..)) (hux _ _ rfl)).1
        rw [q1] at q2
        exact absurd q2 (by simp [rem, units, nI])
      · rcases hby _ (List.mem_cons_self ..) with ⟨rfl | rfl, hm1, hm2, rfl⟩ | ⟨rfl, rfl, hm1, hm2⟩
        · skip
          have hu := hux _ _ rfl
          have hs := hsx _ (List.mem_cons_self ..)
          have hv := huy _ _ rfl
          have hs' := hsy _ (List.mem_cons_self ..)
          have hl : lenP ((1, N, emp) : Pt) = N.toNat := rfl
          have hl' : lenP ((1, M, emp) : Pt) = M.toNat := rfl
          rw [hl] at hu
          rw [hl'] at hv
          clear hbx hby hux huy hsx hsy
          go_wp2_with fail
          refine (wkind_eq 1 rfl HS.out.x).mono ?_
          rintro e wk ⟨rfl, rfl⟩
          go_wp2_with fail
          refine (wkind_eq 1 rfl HS.out.x).mono ?_
          rintro e wk ⟨rfl, rfl⟩
          go_wp2_with fail
          refine (wkind_eq 1 rfl HS.out.y).mono ?_
          rintro e wk ⟨rfl, rfl⟩
          go_wp2_with fail
          refine (wleft_any _ _ ux _ gx _ HS.out.x).mono ?_
          rintro e w5 ⟨rfl, hws⟩
          have HS1 := Lib.hid (HS.out.drawn hws)
          clear hws
          go_wp2_with fail
          refine (wleft_any _ _ uy _ gy _ HS1.out.y).mono ?_
          rintro e w6 ⟨rfl, hws⟩
          have HS2 := Lib.hid (HS1.out.drawn hws)
          clear hws
          obtain ⟨k, hk⟩ : ∃ k, min (lenP ((1, N, emp) : Pt) - ux) (lenP ((1, M, emp) : Pt) - uy) = k := ⟨_, rfl⟩
          have hkI : min ((lenP ((1, N, emp) : Pt) - ux : Nat) : Int) ((lenP ((1, M, emp) : Pt) - uy : Nat) : Int) = (k : Int) := by omega
          rw [hl, hl'] at hk
          have hk1 : 1 ≤ k := by omega
          have hk2 : ux + k ≤ N.toNat := by omega
          have hk4 : uy + k ≤ M.toNat := by omega
          have hk3 : (k : Int) ≤ 500 := by omega
          have HkI := Lib.hid hkI
          clear hk hkI
          go_wp2_with (first | (refine wpList_min2 rfl (.tmp 59) (.tmp 61) _ rfl _ _ _ rfl rfl HkI.out ?_))
          refine (wkind_eq 1 rfl HS2.out.x).mono ?_
          rintro e wk ⟨rfl, rfl⟩
          go_wp2_with fail
          refine (wkind_eq 1 rfl HS2.out.y).mono ?_
          rintro e wk ⟨rfl, rfl⟩
          go_wp2_with fail
          refine (wtake_any _ _ ux k _ gx _ HS2.out.x (by rw [hl]; exact hk2)).mono ?_
          rintro e w7 ⟨rfl, hx2, ho2⟩
          have HS3 := Lib.hid (HS2.out.takex hx2 ho2)
          clear hx2 ho2
          go_wp2_with fail
          refine (wtake_any _ _ uy k _ gy _ HS3.out.y (by rw [hl']; exact hk4)).mono ?_
          rintro e w8 ⟨rfl, hx2, ho2⟩
          have HS4 := Lib.hid (HS3.out.takey hx2 ho2)
          clear hx2 ho2
          go_wp2_with fail
          refine (mkeep_any (k : Int) HS4.out.p (by have := HT.out; omega) HS4.out.size (by omega) (by omega)).mono ?_
          rintro e wc4 ⟨rfl, op4, hm3, hf3⟩
          have HS5 := Lib.hid (HS4.out.mkp hm3 hf3)
          clear hm3 hf3
          go_wp2_with fail
          refine (mkeep_any (k : Int) HS5.out.q (by have := HT.out; omega) HS5.out.size (by omega) (by omega)).mono ?_
          rintro e wc5 ⟨rfl, oq5, hm3, hf3⟩
          have HS6 := Lib.hid (HS5.out.mkq hm3 hf3)
          clear hm3 hf3
          go_wp2_with fail
          go_roundw
          case rel => exact ⟨op4, oq5, _, _, _, _, _, _, HS6, Lib.hid (mstep_kk HC.out hs hs' hk2 hk4)⟩
          case measure =>
           have q1 := HF.out
           rw [far_wk HS6.out.x, far_wk HS6.out.y, q1.1, q1.2]
           have q2 := far_adv HS.out.x hk1 (by rw [hl]; exact hk2)
           have q3 := far_adv HS.out.y hk1 (by rw [hl']; exact hk4)
           omega
        · skip
          have hu := hux _ _ rfl
          have hs := hsx _ (List.mem_cons_self ..)
          have hv := huy _ _ rfl
          have hs' := hsy _ (List.mem_cons_self ..)
          have hl : lenP ((1, N, emp) : Pt) = N.toNat := rfl
          have hl' : lenP ((3, M, emp) : Pt) = M.toNat := rfl
          rw [hl] at hu
          rw [hl'] at hv
          clear hbx hby hux huy hsx hsy
          go_wp2_with fail
          refine (wkind_eq 1 rfl HS.out.x).mono ?_
          rintro e wk ⟨rfl, rfl⟩
          go_wp2_with fail
          refine (wkind_eq 1 rfl HS.out.x).mono ?_
          rintro e wk ⟨rfl, rfl⟩
          go_wp2_with fail
          refine (wkind_eq 3 rfl HS.out.y).mono ?_
          rintro e wk ⟨rfl, rfl⟩
          go_wp2_with fail
          refine (wleft_any _ _ ux _ gx _ HS.out.x).mono ?_
          rintro e w5 ⟨rfl, hws⟩
          have HS1 := Lib.hid (HS.out.drawn hws)
          clear hws
          go_wp2_with fail
          refine (wleft_any _ _ uy _ gy _ HS1.out.y).mono ?_
          rintro e w6 ⟨rfl, hws⟩
          have HS2 := Lib.hid (HS1.out.drawn hws)
          clear hws
          obtain ⟨k, hk⟩ : ∃ k, min (lenP ((1, N, emp) : Pt) - ux) (lenP ((3, M, emp) : Pt) - uy) = k := ⟨_, rfl⟩
          have hkI : min ((lenP ((1, N, emp) : Pt) - ux : Nat) : Int) ((lenP ((3, M, emp) : Pt) - uy : Nat) : Int) = (k : Int) := by omega
          rw [hl, hl'] at hk
          have hk1 : 1 ≤ k := by omega
          have hk2 : ux + k ≤ N.toNat := by omega
          have hk4 : uy + k ≤ M.toNat := by omega
          have hk3 : (k : Int) ≤ 500 := by omega
          have HkI := Lib.hid hkI
          clear hk hkI
          go_wp2_with (first | (refine wpList_min2 rfl (.tmp 59) (.tmp 61) _ rfl _ _ _ rfl rfl HkI.out ?_))
          refine (wkind_eq 1 rfl HS2.out.x).mono ?_
          rintro e wk ⟨rfl, rfl⟩
          go_wp2_with fail
          refine (wkind_eq 3 rfl HS2.out.y).mono ?_
          rintro e wk ⟨rfl, rfl⟩
          go_wp2_with fail
          refine (wtake_any _ _ ux k _ gx _ HS2.out.x (by rw [hl]; exact hk2)).mono ?_
          rintro e w7 ⟨rfl, hx2, ho2⟩
          have HS3 := Lib.hid (HS2.out.takex hx2 ho2)
          clear hx2 ho2
          go_wp2_with fail
          refine (wtake_any _ _ uy k _ gy _ HS3.out.y (by rw [hl']; exact hk4)).mono ?_
          rintro e w8 ⟨rfl, hx2, ho2⟩
          have HS4 := Lib.hid (HS3.out.takey hx2 ho2)
          clear hx2 ho2
          go_wp2_with fail
          refine (mcut_any (k : Int) HS4.out.q (by have := HT.out; omega) (by omega) (by omega)).mono ?_
          rintro e wc4 ⟨rfl, hm3, hf3⟩
          have HS5 := Lib.hid (HS4.out.mkq1 hm3 hf3)
          clear hm3 hf3
          go_wp2_with fail
          go_roundw
          case rel => exact ⟨op, oq, _, _, _, _, _, _, HS5, Lib.hid (mstep_kc HC.out hs hs' hk2 hk4)⟩
          case measure =>
           have q1 := HF.out
           rw [far_wk HS5.out.x, far_wk HS5.out.y, q1.1, q1.2]
           have q2 := far_adv HS.out.x hk1 (by rw [hl]; exact hk2)
           have q3 := far_adv HS.out.y hk1 (by rw [hl']; exact hk4)
           omega
        · skip
          have hu := huy _ _ rfl
          have hs := hsy _ (List.mem_cons_self ..)
          have hl : lenP ((2, 0, t) : Pt) = t.size := rfl
          rw [hl] at hu
          have hnc : ∀ c r', rem ((1, N, emp) :: rx) ux ≠ some (some c) :: r' := rem_noput_keep (hsx _ (List.mem_cons_self ..)) (hux _ _ rfl)
          have Hnc := Lib.hid hnc
          clear hnc
          clear hbx hby hux huy hsx hsy
          go_wp2_with fail
          refine (wkind_eq 1 rfl HS.out.x).mono ?_
          rintro e wk ⟨rfl, rfl⟩
          go_wp2_with fail
          refine (wkind_eq 1 rfl HS.out.x).mono ?_
          rintro e wk ⟨rfl, rfl⟩
          go_wp2_with fail
          refine (wkind_eq 2 rfl HS.out.y).mono ?_
          rintro e wk ⟨rfl, rfl⟩
          go_wp2_with fail
          refine (wleft_any _ _ uy _ gy _ HS.out.y).mono ?_
          rintro e w5 ⟨rfl, hws⟩
          have HS1 := Lib.hid (HS.out.drawn hws)
          clear hws
          obtain ⟨k, hk⟩ : ∃ k, lenP ((2, 0, t) : Pt) - uy = k := ⟨_, rfl⟩
          rw [hk]
          rw [hl] at hk
          have hk1 : 1 ≤ k := by omega
          have hk2 : uy + k ≤ t.size := by omega
          clear hk
          go_wp2_with fail
          refine (wtake_any _ _ uy k _ gy _ HS1.out.y (by rw [hl]; exact hk2)).mono ?_
          rintro e w6 ⟨rfl, hx2, ho2⟩
          have HS2 := Lib.hid (HS1.out.takey hx2 ho2)
          clear hx2 ho2
          rw [show tk (2, 0, t) uy k = t.extract uy (uy + k) from rfl]
          obtain ⟨z, hz⟩ : ∃ z, t.extract uy (uy + k) = z := ⟨_, rfl⟩
          rw [hz]
          have hel : (z.size : Int) ≤ 500 := by rw [← hz, ext_len hk2]; omega
          have Hz := Lib.hid hz
          clear hz
          go_wp2_with fail
          refine (mput_any _ HS2.out.q (by have := HT.out; omega) (by omega)).mono ?_
          rintro e wc2 ⟨rfl, hm3, hf3⟩
          have HS3 := Lib.hid (HS2.out.mkq1 hm3 hf3)
          clear hm3 hf3
          go_wp2_with fail
          refine (mkeep_any (z.size : Int) HS3.out.p (by have := HT.out; omega) HS3.out.size (by omega) (by omega)).mono ?_
          rintro e wc3 ⟨rfl, op3, hm3, hf3⟩
          have HS4 := Lib.hid (HS3.out.mkp hm3 hf3)
          clear hm3 hf3
          go_wp2_with fail
          go_roundw
          case rel => exact ⟨op3, oq, _, _, _, _, _, _, HS4, Lib.hid (by have q := mstep_y HC.out Hnc.out hs hk2; rw [Hz.out] at q; exact q)⟩
          case measure =>
           have q1 := HF.out
           rw [far_wk HS4.out.x, far_wk HS4.out.y, q1.1, q1.2]
           have q3 := far_adv HS.out.y hk1 (by rw [hl]; exact hk2)
           omega
    · skip
      rcases ly with _ | ⟨⟨kd', M, t⟩, ry⟩
      · exfalso
        have huy0 : uy = 0 := HS.out.y.ok.2.1 rfl
        subst huy0
        have q1 := HC.out.2.2
        have q2 := nI_rem_cut (r := rx) (hsx _ (List.mem_cons_self ..)) (hux _ _ rfl)
        rw [q1] at q2
        exact absurd q2 (by simp [rem, units, nI])
      · rcases hby _ (List.mem_cons_self ..) with ⟨rfl | rfl, hm1, hm2, rfl⟩ | ⟨rfl, rfl, hm1, hm2⟩
        · skip
          have hu := hux _ _ rfl
          have hs := hsx _ (List.mem_cons_self ..)
          have hv := huy _ _ rfl
          have hs' := hsy _ (List.mem_cons_self ..)
          have hl : lenP ((3, N, emp) : Pt) = N.toNat := rfl
          have hl' : lenP ((1, M, emp) : Pt) = M.toNat := rfl
          rw [hl] at hu
          rw [hl'] at hv
          clear hbx hby hux huy hsx hsy
          go_wp2_with fail
          refine (wkind_eq 3 rfl HS.out.x).mono ?_
          rintro e wk ⟨rfl, rfl⟩
          go_wp2_with fail
          refine (wkind_eq 3 rfl HS.out.x).mono ?_
          rintro e wk ⟨rfl, rfl⟩
          go_wp2_with fail
          refine (wkind_eq 1 rfl HS.out.y).mono ?_
          rintro e wk ⟨rfl, rfl⟩
          go_wp2_with fail
          refine (wleft_any _ _ ux _ gx _ HS.out.x).mono ?_
          rintro e w5 ⟨rfl, hws⟩
          have HS1 := Lib.hid (HS.out.drawn hws)
          clear hws
          go_wp2_with fail
          refine (wleft_any _ _ uy _ gy _ HS1.out.y).mono ?_
          rintro e w6 ⟨rfl, hws⟩
          have HS2 := Lib.hid (HS1.out.drawn hws)
          clear hws
          obtain ⟨k, hk⟩ : ∃ k, min (lenP ((3, N, emp) : Pt) - ux) (lenP ((1, M, emp) : Pt) - uy) = k := ⟨_, rfl⟩
          have hkI : min ((lenP ((3, N, emp) : Pt) - ux : Nat) : Int) ((lenP ((1, M, emp) : Pt) - uy : Nat) : Int) = (k : Int) := by omega
          rw [hl, hl'] at hk
          have hk1 : 1 ≤ k := by omega
          have hk2 : ux + k ≤ N.toNat := by omega
          have hk4 : uy + k ≤ M.toNat := by omega
          have hk3 : (k : Int) ≤ 500 := by omega
          have HkI := Lib.hid hkI
          clear hk hkI
          go_wp2_with (first | (refine wpList_min2 rfl (.tmp 59) (.tmp 61) _ rfl _ _ _ rfl rfl HkI.out ?_))
          refine (wkind_eq 3 rfl HS2.out.x).mono ?_
          rintro e wk ⟨rfl, rfl⟩
          go_wp2_with fail
          refine (wkind_eq 1 rfl HS2.out.y).mono ?_
          rintro e wk ⟨rfl, rfl⟩
          go_wp2_with fail
          refine (wtake_any _ _ ux k _ gx _ HS2.out.x (by rw [hl]; exact hk2)).mono ?_
          rintro e w7 ⟨rfl, hx2, ho2⟩
          have HS3 := Lib.hid (HS2.out.takex hx2 ho2)
          clear hx2 ho2
          go_wp2_with fail
          refine (wtake_any _ _ uy k _ gy _ HS3.out.y (by rw [hl']; exact hk4)).mono ?_
          rintro e w8 ⟨rfl, hx2, ho2⟩
          have HS4 := Lib.hid (HS3.out.takey hx2 ho2)
          clear hx2 ho2
          go_wp2_with fail
          refine (mcut_any (k : Int) HS4.out.p (by have := HT.out; omega) (by omega) (by omega)).mono ?_
          rintro e wc4 ⟨rfl, hm3, hf3⟩
          have HS5 := Lib.hid (HS4.out.mkp1 hm3 hf3)
          clear hm3 hf3
          go_wp2_with fail
          go_roundw
          case rel => exact ⟨op, oq, _, _, _, _, _, _, HS5, Lib.hid (mstep_ck HC.out hs hs' hk2 hk4)⟩
          case measure =>
           have q1 := HF.out
           rw [far_wk HS5.out.x, far_wk HS5.out.y, q1.1, q1.2]
           have q2 := far_adv HS.out.x hk1 (by rw [hl]; exact hk2)
           have q3 := far_adv HS.out.y hk1 (by rw [hl']; exact hk4)
           omega
        · skip
          have hu := hux _ _ rfl
          have hs := hsx _ (List.mem_cons_self ..)
          have hv := huy _ _ rfl
          have hs' := hsy _ (List.mem_cons_self ..)
          have hl : lenP ((3, N, emp) : Pt) = N.toNat := rfl
          have hl' : lenP ((3, M, emp) : Pt) = M.toNat := rfl
          rw [hl] at hu
          rw [hl'] at hv
          clear hbx hby hux huy hsx hsy
          go_wp2_with fail
          refine (wkind_eq 3 rfl HS.out.x).mono ?_
          rintro e wk ⟨rfl, rfl⟩
          go_wp2_with fail
          refine (wkind_eq 3 rfl HS.out.x).mono ?_
          rintro e wk ⟨rfl, rfl⟩
          go_wp2_with fail
          refine (wkind_eq 3 rfl HS.out.y).mono ?_
          rintro e wk ⟨rfl, rfl⟩
          go_wp2_with fail
          refine (wleft_any _ _ ux _ gx _ HS.out.x).mono ?_
          rintro e w5 ⟨rfl, hws⟩
          have HS1 := Lib.hid (HS.out.drawn hws)
          clear hws
          go_wp2_with fail
          refine (wleft_any _ _ uy _ gy _ HS1.out.y).mono ?_
          rintro e w6 ⟨rfl, hws⟩
          have HS2 := Lib.hid (HS1.out.drawn hws)
          clear hws
          obtain ⟨k, hk⟩ : ∃ k, min (lenP ((3, N, emp) : Pt) - ux) (lenP ((3, M, emp) : Pt) - uy) = k := ⟨_, rfl⟩
          have hkI : min ((lenP ((3, N, emp) : Pt) - ux : Nat) : Int) ((lenP ((3, M, emp) : Pt) - uy : Nat) : Int) = (k : Int) := by omega
          rw [hl, hl'] at hk
          have hk1 : 1 ≤ k := by omega
          have hk2 : ux + k ≤ N.toNat := by omega
          have hk4 : uy + k ≤ M.toNat := by omega
          have hk3 : (k : Int) ≤ 500 := by omega
          have HkI := Lib.hid hkI
          clear hk hkI
          go_wp2_with (first | (refine wpList_min2 rfl (.tmp 59) (.tmp 61) _ rfl _ _ _ rfl rfl HkI.out ?_))
          refine (wkind_eq 3 rfl HS2.out.x).mono ?_
          rintro e wk ⟨rfl, rfl⟩
          go_wp2_with fail
          refine (wkind_eq 3 rfl HS2.out.y).mono ?_
          rintro e wk ⟨rfl, rfl⟩
          go_wp2_with fail
          refine (wtake_any _ _ ux k _ gx _ HS2.out.x (by rw [hl]; exact hk2)).mono ?_
          rintro e w7 ⟨rfl, hx2, ho2⟩
          have HS3 := Lib.hid (HS2.out.takex hx2 ho2)
          clear hx2 ho2
          go_wp2_with fail
          refine (wtake_any _ _ uy k _ gy _ HS3.out.y (by rw [hl']; exact hk4)).mono ?_
          rintro e w8 ⟨rfl, hx2, ho2⟩
          have HS4 := Lib.hid (HS3.out.takey hx2 ho2)
          clear hx2 ho2
          go_wp2_with fail
          go_roundw
          case rel => exact ⟨op, oq, _, _, _, _, _, _, HS4, Lib.hid (mstep_cc HC.out hs hs' hk2 hk4)⟩
          case measure =>
           have q1 := HF.out
           rw [far_wk HS4.out.x, far_wk HS4.out.y, q1.1, q1.2]
           have q2 := far_adv HS.out.x hk1 (by rw [hl]; exact hk2)
           have q3 := far_adv HS.out.y hk1 (by rw [hl']; exact hk4)
           omega
        · skip
          have hu := huy _ _ rfl
          have hs := hsy _ (List.mem_cons_self ..)
          have hl : lenP ((2, 0, t) : Pt) = t.size := rfl
          rw [hl] at hu
          have hnc : ∀ c r', rem ((3, N, emp) :: rx) ux ≠ some (some c) :: r' := rem_noput_cut (hsx _ (List.mem_cons_self ..)) (hux _ _ rfl)
          have Hnc := Lib.hid hnc
          clear hnc
          clear hbx hby hux huy hsx hsy
          go_wp2_with fail
          refine (wkind_eq 3 rfl HS.out.x).mono ?_
          rintro e wk ⟨rfl, rfl⟩
          go_wp2_with fail
          refine (wkind_eq 3 rfl HS.out.x).mono ?_
          rintro e wk ⟨rfl, rfl⟩
          go_wp2_with fail
          refine (wkind_eq 2 rfl HS.out.y).mono ?_
          rintro e wk ⟨rfl, rfl⟩
          go_wp2_with fail
          refine (wleft_any _ _ uy _ gy _ HS.out.y).mono ?_
          rintro e w5 ⟨rfl, hws⟩
          have HS1 := Lib.hid (HS.out.drawn hws)
          clear hws
          obtain ⟨k, hk⟩ : ∃ k, lenP ((2, 0, t) : Pt) - uy = k := ⟨_, rfl⟩
          rw [hk]
          rw [hl] at hk
          have hk1 : 1 ≤ k := by omega
          have hk2 : uy + k ≤ t.size := by omega
          clear hk
          go_wp2_with fail
          refine (wtake_any _ _ uy k _ gy _ HS1.out.y (by rw [hl]; exact hk2)).mono ?_
          rintro e w6 ⟨rfl, hx2, ho2⟩
          have HS2 := Lib.hid (HS1.out.takey hx2 ho2)
          clear hx2 ho2
          rw [show tk (2, 0, t) uy k = t.extract uy (uy + k) from rfl]
          obtain ⟨z, hz⟩ : ∃ z, t.extract uy (uy + k) = z := ⟨_, rfl⟩
          rw [hz]
          have hel : (z.size : Int) ≤ 500 := by rw [← hz, ext_len hk2]; omega
          have Hz := Lib.hid hz
          clear hz
          go_wp2_with fail
          refine (mput_any _ HS2.out.q (by have := HT.out; omega) (by omega)).mono ?_
          rintro e wc2 ⟨rfl, hm3, hf3⟩
          have HS3 := Lib.hid (HS2.out.mkq1 hm3 hf3)
          clear hm3 hf3
          go_wp2_with fail
          refine (mkeep_any (z.size : Int) HS3.out.p (by have := HT.out; omega) HS3.out.size (by omega) (by omega)).mono ?_
          rintro e wc3 ⟨rfl, op3, hm3, hf3⟩
          have HS4 := Lib.hid (HS3.out.mkp hm3 hf3)
          clear hm3 hf3
          go_wp2_with fail
          go_roundw
          case rel => exact ⟨op3, oq, _, _, _, _, _, _, HS4, Lib.hid (by have q := mstep_y HC.out Hnc.out hs hk2; rw [Hz.out] at q; exact q)⟩
          case measure =>
           have q1 := HF.out
           rw [far_wk HS4.out.x, far_wk HS4.out.y, q1.1, q1.2]
           have q3 := far_adv HS.out.y hk1 (by rw [hl]; exact hk2)
           omega
    · skip
      have hu := hux _ _ rfl
      have hs := hsx _ (List.mem_cons_self ..)
      have hl : lenP ((2, 0, t) : Pt) = t.size := rfl
      rw [hl] at hu
      clear hbx hby hux huy hsx hsy
      go_wp2_with fail
      refine (wkind_eq 2 rfl HS.out.x).mono ?_
      rintro e wk ⟨rfl, rfl⟩
      go_wp2_with fail
      refine (wkind_eq 2 rfl HS.out.x).mono ?_
      rintro e wk ⟨rfl, rfl⟩
      go_wp2_with fail
      refine (wleft_any _ _ ux _ gx _ HS.out.x).mono ?_
      rintro e w5 ⟨rfl, hws⟩
      have HS1 := Lib.hid (HS.out.drawn hws)
      clear hws
      obtain ⟨k, hk⟩ : ∃ k, lenP ((2, 0, t) : Pt) - ux = k := ⟨_, rfl⟩
      rw [hk]
      rw [hl] at hk
      have hk1 : 1 ≤ k := by omega
      have hk2 : ux + k ≤ t.size := by omega
      clear hk
      go_wp2_with fail
      refine (wtake_any _ _ ux k _ gx _ HS1.out.x (by rw [hl]; exact hk2)).mono ?_
      rintro e w6 ⟨rfl, hx2, ho2⟩
      have HS2 := Lib.hid (HS1.out.takex hx2 ho2)
      clear hx2 ho2
      rw [show tk (2, 0, t) ux k = t.extract ux (ux + k) from rfl]
      obtain ⟨z, hz⟩ : ∃ z, t.extract ux (ux + k) = z := ⟨_, rfl⟩
      rw [hz]
      have hel : (z.size : Int) ≤ 500 := by rw [← hz, ext_len hk2]; omega
      have Hz := Lib.hid hz
      clear hz
      go_wp2_with fail
      refine (mput_any _ HS2.out.p (by have := HT.out; omega) (by omega)).mono ?_
      rintro e wc2 ⟨rfl, hm3, hf3⟩
      have HS3 := Lib.hid (HS2.out.mkp1 hm3 hf3)
      clear hm3 hf3
      go_wp2_with fail
      refine (mkeep_any (z.size : Int) HS3.out.q (by have := HT.out; omega) HS3.out.size (by omega) (by omega)).mono ?_
      rintro e wc3 ⟨rfl, oq3, hm3, hf3⟩
      have HS4 := Lib.hid (HS3.out.mkq hm3 hf3)
      clear hm3 hf3
      go_wp2_with fail
      go_roundw
      case rel => exact ⟨op, oq3, _, _, _, _, _, _, HS4, Lib.hid (by have q := mstep_x HC.out hs hk2; rw [Hz.out] at q; exact q)⟩
      case measure =>
       have q1 := HF.out
       rw [far_wk HS4.out.x, far_wk HS4.out.y, q1.1, q1.2]
       have q2 := far_adv HS.out.x hk1 (by rw [hl]; exact hk2)
       omega
theorem meet_any (a b : List Pt) (A A' : Option Addr) (n n' c c' : Nat) (w : World) (h : RdP w w.heap.size A n c a) (h' : RdP w w.heap.size A' n' c' b) :
 Calls Try.prog 93 #[.slice A n c, .slice A' n' c'] w fun e w' => ResP2 w w' e (meetE a b) (meetC a b) (meetD a b) := by
 by_cases he : preE a b = 0
 · exact meet_post a b A A' n n' c c' w h h' he
 · exact meet_pre a b A A' n n' c c' w h h' he
theorem meet_rd (a b : List Pt) (A A' : Option Addr) (n n' c c' : Nat) (w : World) (h : RdP w w.heap.size A n c a) (h' : RdP w w.heap.size A' n' c' b) :
 Calls Try.prog 93 #[.slice A n c, .slice A' n' c'] w fun e w' => ∃ A c A' c', e = .returned (.tuple #[.slice A (meetC a b).length c, .slice A' (meetD a b).length c', .int .i64 (meetE a b)]) ∧
  RdP w' w'.heap.size A (meetC a b).length c (meetC a b) ∧ RdP w' w'.heap.size A' (meetD a b).length c' (meetD a b) ∧ Below w.heap.size w w' :=
 (meet_any a b A A' n n' c c' w h h').mono fun e w' h => h.rd (by
   by_cases he : meetE a b = 0
   · exact text_good (meet_good he).1
   · rw [(meet_err he).1]; simp) (by
   by_cases he : meetE a b = 0
   · exact text_good (meet_good he).2
   · rw [(meet_err he).2]; simp)
end Go.Proofs.Ytokngfinnieccaa
