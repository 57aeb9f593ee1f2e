/- Contract of comp.Of. Written by gen_comp.py. Slices of ints: read, searched, compared. Two deltas of one text gone through: what is told, step by step; plain lists, no program. -/
import Derived.Test.YtokngfinnieccaaO6
import Derived.Test.YtokngfinnieccaaO5
import Derived.Test.YtokngfinnieccaaO2
import Derived.Test.YtokngfinnieccaaO1
namespace Go.Proofs.Ytokngfinnieccaa
open Go.ChangeShapes Go.WideShapes Go.RowKit
set_option linter.unusedVariables false
set_option linter.unusedSimpArgs false
set_option maxRecDepth 100000
set_option maxHeartbeats 4000000
structure CS (w0 : World) (B gm gx gy : Nat) (w : World) (ob : Option Nat) (told : List U) (lx : List Pt) (ux : Nat) (ly : List Pt) (uy : Nat) : Prop where
 m : Mk w B gm ob told
 x : Wk w B gx lx ux
 y : Wk w B gy ly uy
 o : ∀ k, ob = some k → k ≠ gx ∧ k ≠ gy
 mx : gm ≠ gx
 my : gm ≠ gy
 xy : gx ≠ gy
 b : Below B w0 w
 B0 : B ≤ gm
section
variable {w0 w w' : World} {B gm gx gy ux uy ux' uy' : Nat} {ob ob' : Option Nat} {told told' : List U} {lx ly lx' ly' : List Pt}
theorem CS.size (h : CS w0 B gm gx gy w ob told lx ux ly uy) : B ≤ w.heap.size := by have := h.m.lt; have := h.B0; omega
theorem CS.drawn (h : CS w0 B gm gx gy w ob told lx ux ly uy) (hs : WS w w') : CS w0 B gm gx gy w' ob told lx ux ly uy := by
 obtain ⟨q, rfl⟩ := hs
 have ho : Only w (w.drewN q) (fun _ => False) := Only.drewN w q
 exact ⟨h.m.only ho (fun h => h) fun _ _ h => h, h.x.drewN q, h.y.drewN q, h.o, h.mx, h.my, h.xy, below_drewN_ h.b q, h.B0⟩
theorem CS.takex (h : CS w0 B gm gx gy w ob told lx ux ly uy) (hw : Wk w' B gx lx' ux') (ho : Only w w' (fun k => k = gx)) : CS w0 B gm gx gy w' ob told lx' ux' ly uy := by
 have hb : Below B w w' := ho.below h.size fun k hk => by rw [hk]; exact h.x.1
 exact ⟨h.m.only ho h.mx fun k hk => (h.o k hk).1, hw, h.y.only ho (Ne.symm h.xy) hb, h.o, h.mx, h.my, h.xy, h.b.trans hb, h.B0⟩
theorem CS.takey (h : CS w0 B gm gx gy w ob told lx ux ly uy) (hw : Wk w' B gy ly' uy') (ho : Only w w' (fun k => k = gy)) : CS w0 B gm gx gy w' ob told lx ux ly' uy' := by
 have hb : Below B w w' := ho.below h.size fun k hk => by rw [hk]; exact h.y.1
 exact ⟨h.m.only ho h.my fun k hk => (h.o k hk).2, h.x.only ho h.xy hb, hw, h.o, h.mx, h.my, h.xy, h.b.trans hb, h.B0⟩
theorem CS.mk_ (h : CS w0 B gm gx gy w ob told lx ux ly uy) (hm : Mk w' B gm ob' told') (hf : MFr w w' gm ob ob') : CS w0 B gm gx gy w' ob' told' lx ux ly uy := by
 have hb : Below B w w' := hf.below_ h.size h.B0 fun k hk => (h.m.ge k hk).1
 refine ⟨hm, h.x.only hf.1 ?_ hb, h.y.only hf.1 ?_ hb, ?_, h.mx, h.my, h.xy, h.b.trans hb, h.B0⟩
 · rintro (e | e)
   · exact h.mx e.symm
   · exact (h.o _ e).1 rfl
 · rintro (e | e)
   · exact h.my e.symm
   · exact (h.o _ e).2 rfl
 · intro k hk
   rcases hf.2 with e | e
   · exact h.o k (by rw [← e]; exact hk)
   · have := e k hk
     have h1 := h.x.lt
     have h2 := h.y.lt
     omega
theorem CS.mk1 (h : CS w0 B gm gx gy w ob told lx ux ly uy) (hm : Mk w' B gm ob told') (hf : Only w w' (fun k => k = gm ∨ ob = some k)) : CS w0 B gm gx gy w' ob told' lx ux ly uy := h.mk_ hm ⟨hf, .inl rfl⟩
end
def far (w : World) (g : Nat) : Nat := match w.cell? ⟨g, 0, none⟩, w.cell? ⟨g, 1, none⟩ with
 | some (.slice _ n _), some (.int _ u) => n * 501 - u.toNat
 | _, _ => 0
theorem far_wk {w : World} {B g used : Nat} {l : List Pt} (h : Wk w B g l used) : far w g = l.length * 501 - used := by
 obtain ⟨_, A, n, c, hb, hr, _⟩ := h
 have c0 := hb.cell 0
 have c1 := hb.cell 1
 unfold far
 rw [c0, c1]
 simp [hr.1]
theorem far_adv {w : World} {B g used n : Nat} {p : Pt} {r : List Pt} (h : Wk w B g (p :: r) used) (h1 : 1 ≤ n) (hn : used + n ≤ lenP p) : (adv (p :: r) used n).1.length * 501 - (adv (p :: r) used n).2 < (p :: r).length * 501 - used := by
 have hl := lenP_fit (h.fit p (by simp))
 have hu := h.ok.2.2 p r rfl
 simp only [adv]
 split
 · simp only [List.length_cons]; omega
 · simp only [List.length_cons]; omega
theorem wkind_eq {l : List Pt} {used B g : Nat} {w : World} (K : Int) (hK : hk l = K) (h : Wk w B g l used) :
 Calls Try.prog 119 #[.pointer (some ⟨g, 0, none⟩)] w fun e w' => e = .returned (.int .i64 K) ∧ w = w' := by
 rw [← hK]; exact wkind_any l used B g w h
theorem comp_pre (a b : List Pt) (A A' : Option Addr) (n n' c c' : Nat) (w : World) (h : RdP w w.heap.size A n c a) (h' : RdP w w.heap.size A' n' c' b) (he : compE a b ≠ 0) :
 Calls Try.prog 103 #[.slice A n c, .slice A' n' c'] w fun e w' => ResP w w' e (compE a b) (compL a b) := by
 rw [comp_err he]
 have Ha := Lib.hid h
 have Hb := Lib.hid h'
 clear h h'
 by_cases h1 : chk a = 0
 · by_cases h2 : chk b = 0
   · have h3 : nO (units a) ≠ nI (units b) := fun h => he (comp_zero h1 h2 h)
     have e4 : compE a b = 4 := by unfold compE; rw [if_neg (by omega), if_neg (by omega), if_pos h3]
     rw [e4]
     have h4 : ((nO (units a) : Int) != (nI (units b) : Int)) = true := by simp; omega
     have H1 := Lib.hid h1
     have H2 := Lib.hid h2
     clear he e4 h1 h2 h3
     go_enter Try.func103, Try.ntmps103
     go_wp2_with fail
     refine (psizes_good a A n c _ _ Ha.out (Nat.le_refl _) H1.out).mono ?_
     rintro e w1 ⟨rfl, hb1⟩
     have Hb1 := Lib.hid (Hb.out.step hb1)
     go_wp2_with fail
     refine (psizes_good b A' n' c' _ _ Hb1.out (Nat.le_refl _) H2.out).mono ?_
     rintro e w2 ⟨rfl, hb2⟩
     have hw2 := hb1.trans (hb2.mono hb1.size)
     clear hb1 hb2
     go_wp2_with fail
     go_ret2
     exact ResP.err w 4 hw2
   · have e4 : compE a b = chk b := by unfold compE; rw [if_neg (by omega), if_pos h2]
     rw [e4]
     have h4 : ((chk b) != 0) = true := by simpa using h2
     have H1 := Lib.hid h1
     have H2 := Lib.hid h2
     clear he e4 h1 h2
     go_enter Try.func103, Try.ntmps103
     go_wp2_with fail
     refine (psizes_good a A n c _ _ Ha.out (Nat.le_refl _) H1.out).mono ?_
     rintro e w1 ⟨rfl, hb1⟩
     have Hb1 := Lib.hid (Hb.out.step hb1)
     go_wp2_with fail
     refine (psizes_err b A' n' c' _ _ Hb1.out (Nat.le_refl _) H2.out).mono ?_
     rintro e w2 ⟨rfl, hb2⟩
     have hw2 := hb1.trans (hb2.mono hb1.size)
     clear hb1 hb2
     go_wp2_with fail
     go_ret2
     exact ResP.err w _ hw2
 · have e4 : compE a b = chk a := by unfold compE; rw [if_pos h1]
   rw [e4]
   have h4 : ((chk a) != 0) = true := by simpa using h1
   have H1 := Lib.hid h1
   clear he e4 h1
   go_enter Try.func103, Try.ntmps103
   go_wp2_with fail
   refine (psizes_err a A n c _ _ Ha.out (Nat.le_refl _) H1.out).mono ?_
   rintro e w1 ⟨rfl, hb1⟩
   go_wp2_with fail
   go_ret2
   exact ResP.err w _ hb1
theorem comp_good (a b : List Pt) (A A' : Option Addr) (n n' c c' : Nat) (w : World) (h : RdP w w.heap.size A n c a) (h' : RdP w w.heap.size A' n' c' b) (he : compE a b = 0) :
 Calls Try.prog 103 #[.slice A n c, .slice A' n' c'] w fun e w' => ResP w w' e (compE a b) (compL a b) := by
 obtain ⟨h1, h2, h3, h4, h5⟩ := comp_chk he
 rw [he, h4]
 have hne : ((nO (units a) : Int) != (nI (units b) : Int)) = false := by simp; omega
 have Ha := Lib.hid h
 have Hb := Lib.hid h'
 have H1 := Lib.hid h1
 have H2 := Lib.hid h2
 have hXl : (cmp (units a) (units b)).length ≤ 1000 := by
  have q1 := len_sizes (cmp (units a) (units b))
  rw [nI_cmp _ _ h3, nO_cmp _ _ h3] at q1
  have q2 := (chk_parts h1).2.2.2.1
  have q3 := (chk_parts h2).2.2.2.2.1
  omega
 have hci : CI [] (rem a 0) (rem b 0) (cmp (units a) (units b)) := ⟨rfl, h3⟩
 generalize hX : cmp (units a) (units b) = X at *
 have HXl := Lib.hid hXl
 have Hci := Lib.hid hci
 have hww := Below.refl w.heap.size w
 clear h h' he h1 h2 h3 h4 h5 hX hXl hci
 go_enter Try.func103, Try.ntmps103
 go_wp2_with fail
 refine (psizes_good a A n c _ _ Ha.out (Nat.le_refl _) H1.out).mono ?_
 rintro e w1 ⟨rfl, hb1⟩
 have hc1 := hww.trans hb1
 go_wp2_with fail
 refine (psizes_good b A' n' c' w.heap.size _ (Hb.out.below hc1) hc1.size H2.out).mono ?_
 rintro e w2 ⟨rfl, hb2⟩
 have hc2 := hc1.trans (hb2.mono hc1.size)
 have Hc2 := Lib.hid hc2
 have hsz2 := hc2.size
 clear hww hb1 hb2 hc1 hc2
 have hbm := (Hc2.out).alloc hsz2 (.cells #[.slice none 0 0, .string ⟨#[]⟩, .int .i64 0] 105)
 have hmk : Mk (w2.alloc (.cells #[.slice none 0 0, .string ⟨#[]⟩, .int .i64 0] 105)) w.heap.size w2.heap.size none [] :=
  ⟨[], emp, 0, ⟨_, Blk.new w2 _ _, OwnP.nil _ _, rfl⟩, MRep.new⟩
 have Hmk := Lib.hid hmk
 have Hbm := Lib.hid hbm
 clear hmk hbm
 go_wp2_with fail
 refine (walk_any a A n c w.heap.size _ (Ha.out.below Hbm.out) Hbm.out.size H1.out).mono ?_
 rintro e w3 ⟨rfl, hx, hb3, hs3⟩
 have hc3 := Hbm.out.trans (hb3.mono Hbm.out.size)
 have Hmk3 := Lib.hid (Hmk.out.only (S := fun _ => False) (Only.of_below hb3) (fun h => h) fun _ _ h => h)
 have Hx := Lib.hid hx
 have Hc3 := Lib.hid hc3
 clear hx hb3 hc3 Hmk Hbm
 rw [World.size_alloc] at hs3
 go_wp2_with fail
 refine (walk_any b A' n' c' w.heap.size _ (Hb.out.below Hc3.out) Hc3.out.size H2.out).mono ?_
 rintro e w4 ⟨rfl, hy, hb4, hs4⟩
 have hc4 := Hc3.out.trans (hb4.mono Hc3.out.size)
 have hcs : CS w w.heap.size w2.heap.size (w2.heap.size + 1) w3.heap.size w4 none [] a 0 b 0 := by
  have ho : Only w3 w4 (fun _ => False) := Only.of_below hb4
  refine ⟨Hmk3.out.only ho (fun h => h) fun _ _ h => h, ?_, hy, by simp, by omega, by omega, by omega, hc4, by omega⟩
  have hx2 := Hx.out
  rw [World.size_alloc] at hx2
  exact hx2.only ho (fun h => h) (hb4.mono (by omega))
 have HS0 := Lib.hid hcs
 clear hcs hy hb4 hs4 hc4 Hx Hmk3 Hc3
 obtain ⟨gm, hgm⟩ : ∃ g, g = w2.heap.size := ⟨_, rfl⟩
 rw [← hgm] at HS0 hs3 ⊢
 obtain ⟨gx, hgx⟩ : ∃ g, g = gm + 1 := ⟨_, rfl⟩
 rw [← hgx] at HS0 hs3 ⊢
 obtain ⟨gy, hgy⟩ : ∃ g, g = w3.heap.size := ⟨_, rfl⟩
 rw [← hgy] at HS0 ⊢
 clear hs3 hgm hgx hgy
 go_wp2_with fail
 go_loopw [14, 15, 16, 17, 18] (fun v1 v2 v3 v4 v5 wr => ∃ ob told lx ux ly uy, Hid (CS w w.heap.size gm gx gy wr ob told lx ux ly uy) ∧ Hid (CI told (rem lx ux) (rem ly uy) X)) (fun _ _ _ _ _ wr => far wr gx + far wr gy)
 case atStart => exact ⟨_, _, _, _, _, _, HS0, Hci⟩
 case round =>
  obtain ⟨ob, told, lx, ux, ly, uy, HS, HC⟩ := hrel
  have hfar : far wr gx = lx.length * 501 - ux ∧ far wr gy = ly.length * 501 - uy := ⟨far_wk HS.out.x, far_wk HS.out.y⟩
  have HF := Lib.hid hfar
  have htl : told.length ≤ 1000 := by have := HC.out.len; have := HXl.out; omega
  have HT := Lib.hid htl
  clear hfar htl
  have hbx : ∀ p ∈ lx, _ := fun p hp => fit_bounds p (HS.out.x.fit p hp)
  have hby : ∀ p ∈ ly, _ := fun p hp => fit_bounds p (HS.out.y.fit p hp)
  have hux : ∀ p r, lx = p :: r → ux < lenP p := HS.out.x.ok.2.2
  have huy : ∀ p r, ly = p :: r → uy < lenP p := HS.out.y.ok.2.2
  have hsx : ∀ p ∈ lx, Shape p := HS.out.x.ok.1
  have hsy : ∀ p ∈ ly, Shape p := HS.out.y.ok.1
  rcases lx with _ | ⟨⟨kd, N, t⟩, rx⟩
  · have hux0 : ux = 0 := HS.out.x.ok.2.1 rfl
    subst hux0
    rcases ly with _ | ⟨⟨kd', M, s⟩, ry⟩
    · have huy0 : uy = 0 := HS.out.y.ok.2.1 rfl
      subst huy0
      have htX : told = X := HC.out.fin
      subst htX
      clear hbx hby hux huy hsx hsy
      go_wp2_with fail
      refine (wkind_eq 0 rfl HS.out.x).mono ?_
      rintro e wk ⟨rfl, rfl⟩
      go_wp2_with fail
      refine (wkind_eq 0 rfl HS.out.y).mono ?_
      rintro e wk ⟨rfl, rfl⟩
      go_wp2_with fail
      refine (mdone_any HS.out.m (by have := HT.out; omega) HS.out.size).mono ?_
      rintro e w5 ⟨v, ob2, rfl, ho, _, hf⟩
      have hbb : Below w.heap.size w w5 := HS.out.b.trans (hf.below_ HS.out.size HS.out.B0 fun k hk => (HS.out.m.ge k hk).1)
      obtain ⟨A5, c5, rfl⟩ := ho.form
      have Ho := Lib.hid ho
      clear ho hf
      go_wp2_with fail
      go_ret2
      exact ⟨_, rfl, Ho.out, hbb⟩
    · rcases hby _ (List.mem_cons_self ..) with ⟨rfl | rfl, hm1, hm2, rfl⟩ | ⟨rfl, rfl, hm1, hm2⟩
      · exfalso
        have q1 := HC.out.2
        have q2 := (nI_rem_keep (r := ry) (hsy _ (List.mem_cons_self ..)) (huy _ _ rfl)).1
        rw [← q1] at q2
        exact absurd q2 (by simp [rem, units, nO])
      · exfalso
        have q1 := HC.out.2
        have q2 := nI_rem_cut (r := ry) (hsy _ (List.mem_cons_self ..)) (huy _ _ rfl)
        rw [← q1] at q2
        exact absurd q2 (by simp [rem, units, nO])
      · skip
        have hu := huy _ _ rfl
        have hs := hsy _ (List.mem_cons_self ..)
        have hl : lenP ((2, 0, s) : Pt) = s.size := rfl
        rw [hl] at hu
        have hnc : ∀ r', rem [] 0 ≠ some none :: r' := by intro r' e; simp [rem, units] at e
        have Hnc := Lib.hid hnc
        clear hbx hby hux huy hsx hsy hnc
        go_wp2_with fail
        refine (wkind_eq 0 rfl HS.out.x).mono ?_
        rintro e wk ⟨rfl, rfl⟩
        go_wp2_with fail
        refine (wkind_eq 2 rfl HS.out.y).mono ?_
        rintro e wk ⟨rfl, rfl⟩
        go_wp2_with fail
        refine (wkind_eq 0 rfl HS.out.x).mono ?_
        rintro e wk ⟨rfl, rfl⟩
        go_wp2_with fail
        refine (wkind_eq 2 rfl HS.out.y).mono ?_
        rintro e wk ⟨rfl, rfl⟩
        go_wp2_with fail
        refine (wleft_any _ _ uy _ gy _ HS.out.y).mono ?_
        rintro e w5 ⟨rfl, hws⟩
        have HS1 := Lib.hid (HS.out.drawn hws)
        clear hws
        obtain ⟨k, hk⟩ : ∃ k, lenP ((2, 0, s) : Pt) - uy = k := ⟨_, rfl⟩
        rw [hk]
        rw [hl] at hk
        have hk1 : 1 ≤ k := by omega
        have hk2 : uy + k ≤ s.size := by omega
        clear hk
        go_wp2_with fail
        refine (wtake_any _ _ uy k _ gy _ HS1.out.y (by rw [hl]; exact hk2)).mono ?_
        rintro e w6 ⟨rfl, hx2, ho2⟩
        have HS2 := Lib.hid (HS1.out.takey hx2 ho2)
        clear hx2 ho2
        rw [show tk (2, 0, s) uy k = s.extract uy (uy + k) from rfl]
        have hel : (s.extract uy (uy + k)).size ≤ 500 := by rw [ext_len hk2]; omega
        go_wp2_with fail
        refine (mput_any _ HS2.out.m (by have := HT.out; omega) (by omega)).mono ?_
        rintro e w7 ⟨rfl, hm3, hf3⟩
        have HS3 := Lib.hid (HS2.out.mk1 hm3 hf3)
        clear hm3 hf3
        go_wp2_with fail
        go_roundw
        case rel => exact ⟨ob, _, _, _, _, _, HS3, Lib.hid (cstep_put HC.out Hnc.out hs hk2)⟩
        case measure =>
         have q1 := HF.out
         rw [far_wk HS3.out.x, far_wk HS3.out.y, q1.1, q1.2]
         have q3 := far_adv HS.out.y hk1 (by rw [hl]; exact hk2)
         omega
  · rcases hbx _ (List.mem_cons_self ..) with ⟨rfl | rfl, hn1, hn2, rfl⟩ | ⟨rfl, rfl, hn1, hn2⟩
    · skip
      rcases ly with _ | ⟨⟨kd', M, s⟩, ry⟩
      · exfalso
        have huy0 : uy = 0 := HS.out.y.ok.2.1 rfl
        subst huy0
        have q1 := HC.out.2
        have q2 := (nI_rem_keep (r := rx) (hsx _ (List.mem_cons_self ..)) (hux _ _ rfl)).2
        rw [q1] at q2
        exact absurd q2 (by simp [rem, units, nI])
      · rcases hby _ (List.mem_cons_self ..) with ⟨rfl | rfl, hm1, hm2, rfl⟩ | ⟨rfl, rfl, hm1, hm2⟩
        · skip
          have hu := hux _ _ rfl
          have hs := hsx _ (List.mem_cons_self ..)
          have hv := huy _ _ rfl
          have hs' := hsy _ (List.mem_cons_self ..)
          have hl : lenP ((1, N, emp) : Pt) = N.toNat := rfl
          have hl' : lenP ((1, M, emp) : Pt) = M.toNat := rfl
          rw [hl] at hu
          rw [hl'] at hv
          clear hbx hby hux huy hsx hsy
          go_wp2_with fail
          refine (wkind_eq 1 rfl HS.out.x).mono ?_
          rintro e wk ⟨rfl, rfl⟩
          go_wp2_with fail
          refine (wkind_eq 1 rfl HS.out.x).mono ?_
          rintro e wk ⟨rfl, rfl⟩
          go_wp2_with fail
          refine (wkind_eq 1 rfl HS.out.y).mono ?_
          rintro e wk ⟨rfl, rfl⟩
          go_wp2_with fail
          refine (wleft_any _ _ ux _ gx _ HS.out.x).mono ?_
          rintro e w5 ⟨rfl, hws⟩
          have HS1 := Lib.hid (HS.out.drawn hws)
          clear hws
          go_wp2_with fail
          refine (wleft_any _ _ uy _ gy _ HS1.out.y).mono ?_
          rintro e w6 ⟨rfl, hws⟩
          have HS2 := Lib.hid (HS1.out.drawn hws)
          clear hws
          obtain ⟨k, hk⟩ : ∃ k, min (lenP ((1, N, emp) : Pt) - ux) (lenP ((1, M, emp) : Pt) - uy) = k := ⟨_, rfl⟩
          have hkI : min ((lenP ((1, N, emp) : Pt) - ux : Nat) : Int) ((lenP ((1, M, emp) : Pt) - uy : Nat) : Int) = (k : Int) := by omega
          rw [hl, hl'] at hk
          have hk1 : 1 ≤ k := by omega
          have hk2 : ux + k ≤ N.toNat := by omega
          have hk4 : uy + k ≤ M.toNat := by omega
          have hk3 : (k : Int) ≤ 500 := by omega
          have HkI := Lib.hid hkI
          clear hk hkI
          go_wp2_with (first | (refine wpList_min2 rfl (.tmp 53) (.tmp 55) _ rfl _ _ _ rfl rfl HkI.out ?_))
          refine (wkind_eq 1 rfl HS2.out.x).mono ?_
          rintro e wk ⟨rfl, rfl⟩
          go_wp2_with fail
          refine (wkind_eq 1 rfl HS2.out.y).mono ?_
          rintro e wk ⟨rfl, rfl⟩
          go_wp2_with fail
          refine (wtake_any _ _ ux k _ gx _ HS2.out.x (by rw [hl]; exact hk2)).mono ?_
          rintro e w7 ⟨rfl, hx2, ho2⟩
          have HS3 := Lib.hid (HS2.out.takex hx2 ho2)
          clear hx2 ho2
          go_wp2_with fail
          refine (wtake_any _ _ uy k _ gy _ HS3.out.y (by rw [hl']; exact hk4)).mono ?_
          rintro e w8 ⟨rfl, hx2, ho2⟩
          have HS4 := Lib.hid (HS3.out.takey hx2 ho2)
          clear hx2 ho2
          go_wp2_with fail
          refine (mkeep_any (k : Int) HS4.out.m (by have := HT.out; omega) HS4.out.size (by omega) (by omega)).mono ?_
          rintro e w9 ⟨rfl, ob2, hm3, hf3⟩
          have HS5 := Lib.hid (HS4.out.mk_ hm3 hf3)
          clear hm3 hf3
          go_wp2_with fail
          go_roundw
          case rel => exact ⟨ob2, _, _, _, _, _, HS5, Lib.hid (cstep_kk HC.out hs hs' hk2 hk4)⟩
          case measure =>
           have q1 := HF.out
           rw [far_wk HS5.out.x, far_wk HS5.out.y, q1.1, q1.2]
           have q2 := far_adv HS.out.x hk1 (by rw [hl]; exact hk2)
           have q3 := far_adv HS.out.y hk1 (by rw [hl']; exact hk4)
           omega
        · skip
          have hu := hux _ _ rfl
          have hs := hsx _ (List.mem_cons_self ..)
          have hv := huy _ _ rfl
          have hs' := hsy _ (List.mem_cons_self ..)
          have hl : lenP ((1, N, emp) : Pt) = N.toNat := rfl
          have hl' : lenP ((3, M, emp) : Pt) = M.toNat := rfl
          rw [hl] at hu
          rw [hl'] at hv
          clear hbx hby hux huy hsx hsy
          go_wp2_with fail
          refine (wkind_eq 1 rfl HS.out.x).mono ?_
          rintro e wk ⟨rfl, rfl⟩
          go_wp2_with fail
          refine (wkind_eq 1 rfl HS.out.x).mono ?_
          rintro e wk ⟨rfl, rfl⟩
          go_wp2_with fail
          refine (wkind_eq 3 rfl HS.out.y).mono ?_
          rintro e wk ⟨rfl, rfl⟩
          go_wp2_with fail
          refine (wleft_any _ _ ux _ gx _ HS.out.x).mono ?_
          rintro e w5 ⟨rfl, hws⟩
          have HS1 := Lib.hid (HS.out.drawn hws)
          clear hws
          go_wp2_with fail
          refine (wleft_any _ _ uy _ gy _ HS1.out.y).mono ?_
          rintro e w6 ⟨rfl, hws⟩
          have HS2 := Lib.hid (HS1.out.drawn hws)
          clear hws
          obtain ⟨k, hk⟩ : ∃ k, min (lenP ((1, N, emp) : Pt) - ux) (lenP ((3, M, emp) : Pt) - uy) = k := ⟨_, rfl⟩
          have hkI : min ((lenP ((1, N, emp) : Pt) - ux : Nat) : Int) ((lenP ((3, M, emp) : Pt) - uy : Nat) : Int) = (k : Int) := by omega
          rw [hl, hl'] at hk
          have hk1 : 1 ≤ k := by omega
          have hk2 : ux + k ≤ N.toNat := by omega
          have hk4 : uy + k ≤ M.toNat := by omega
          have hk3 : (k : Int) ≤ 500 := by omega
          have HkI := Lib.hid hkI
          clear hk hkI
          go_wp2_with (first | (refine wpList_min2 rfl (.tmp 53) (.tmp 55) _ rfl _ _ _ rfl rfl HkI.out ?_))
          refine (wkind_eq 1 rfl HS2.out.x).mono ?_
          rintro e wk ⟨rfl, rfl⟩
          go_wp2_with fail
          refine (wkind_eq 3 rfl HS2.out.y).mono ?_
          rintro e wk ⟨rfl, rfl⟩
          go_wp2_with fail
          refine (wtake_any _ _ ux k _ gx _ HS2.out.x (by rw [hl]; exact hk2)).mono ?_
          rintro e w7 ⟨rfl, hx2, ho2⟩
          have HS3 := Lib.hid (HS2.out.takex hx2 ho2)
          clear hx2 ho2
          go_wp2_with fail
          refine (wtake_any _ _ uy k _ gy _ HS3.out.y (by rw [hl']; exact hk4)).mono ?_
          rintro e w8 ⟨rfl, hx2, ho2⟩
          have HS4 := Lib.hid (HS3.out.takey hx2 ho2)
          clear hx2 ho2
          go_wp2_with fail
          refine (mcut_any (k : Int) HS4.out.m (by have := HT.out; omega) (by omega) (by omega)).mono ?_
          rintro e w9 ⟨rfl, hm3, hf3⟩
          have HS5 := Lib.hid (HS4.out.mk1 hm3 hf3)
          clear hm3 hf3
          go_wp2_with fail
          go_roundw
          case rel => exact ⟨ob, _, _, _, _, _, HS5, Lib.hid (cstep_kc HC.out hs hs' hk2 hk4)⟩
          case measure =>
           have q1 := HF.out
           rw [far_wk HS5.out.x, far_wk HS5.out.y, q1.1, q1.2]
           have q2 := far_adv HS.out.x hk1 (by rw [hl]; exact hk2)
           have q3 := far_adv HS.out.y hk1 (by rw [hl']; exact hk4)
           omega
        · skip
          have hu := huy _ _ rfl
          have hs := hsy _ (List.mem_cons_self ..)
          have hl : lenP ((2, 0, s) : Pt) = s.size := rfl
          rw [hl] at hu
          have hnc : ∀ r', rem ((1, N, emp) :: rx) ux ≠ some none :: r' := rem_nocut_keep (hsx _ (List.mem_cons_self ..)) (hux _ _ rfl)
          have Hnc := Lib.hid hnc
          clear hbx hby hux huy hsx hsy hnc
          go_wp2_with fail
          refine (wkind_eq 1 rfl HS.out.x).mono ?_
          rintro e wk ⟨rfl, rfl⟩
          go_wp2_with fail
          refine (wkind_eq 1 rfl HS.out.x).mono ?_
          rintro e wk ⟨rfl, rfl⟩
          go_wp2_with fail
          refine (wkind_eq 2 rfl HS.out.y).mono ?_
          rintro e wk ⟨rfl, rfl⟩
          go_wp2_with fail
          refine (wleft_any _ _ uy _ gy _ HS.out.y).mono ?_
          rintro e w5 ⟨rfl, hws⟩
          have HS1 := Lib.hid (HS.out.drawn hws)
          clear hws
          obtain ⟨k, hk⟩ : ∃ k, lenP ((2, 0, s) : Pt) - uy = k := ⟨_, rfl⟩
          rw [hk]
          rw [hl] at hk
          have hk1 : 1 ≤ k := by omega
          have hk2 : uy + k ≤ s.size := by omega
          clear hk
          go_wp2_with fail
          refine (wtake_any _ _ uy k _ gy _ HS1.out.y (by rw [hl]; exact hk2)).mono ?_
          rintro e w6 ⟨rfl, hx2, ho2⟩
          have HS2 := Lib.hid (HS1.out.takey hx2 ho2)
          clear hx2 ho2
          rw [show tk (2, 0, s) uy k = s.extract uy (uy + k) from rfl]
          have hel : (s.extract uy (uy + k)).size ≤ 500 := by rw [ext_len hk2]; omega
          go_wp2_with fail
          refine (mput_any _ HS2.out.m (by have := HT.out; omega) (by omega)).mono ?_
          rintro e w7 ⟨rfl, hm3, hf3⟩
          have HS3 := Lib.hid (HS2.out.mk1 hm3 hf3)
          clear hm3 hf3
          go_wp2_with fail
          go_roundw
          case rel => exact ⟨ob, _, _, _, _, _, HS3, Lib.hid (cstep_put HC.out Hnc.out hs hk2)⟩
          case measure =>
           have q1 := HF.out
           rw [far_wk HS3.out.x, far_wk HS3.out.y, q1.1, q1.2]
           have q3 := far_adv HS.out.y hk1 (by rw [hl]; exact hk2)
           omega
    · skip
      have hu := hux _ _ rfl
      have hs := hsx _ (List.mem_cons_self ..)
      have hl : lenP ((3, N, emp) : Pt) = N.toNat := rfl
      rw [hl] at hu
      clear hbx hby hux huy hsx hsy
      go_wp2_with fail
      refine (wkind_eq 3 rfl HS.out.x).mono ?_
      rintro e wk ⟨rfl, rfl⟩
      go_wp2_with fail
      refine (wkind_eq 3 rfl HS.out.x).mono ?_
      rintro e wk ⟨rfl, rfl⟩
      go_wp2_with fail
      refine (wleft_any _ _ ux _ gx _ HS.out.x).mono ?_
      rintro e w5 ⟨rfl, hws⟩
      have HS1 := Lib.hid (HS.out.drawn hws)
      clear hws
      obtain ⟨k, hk⟩ : ∃ k, lenP ((3, N, emp) : Pt) - ux = k := ⟨_, rfl⟩
      rw [hk]
      rw [hl] at hk
      have hk1 : 1 ≤ k := by omega
      have hk2 : ux + k ≤ N.toNat := by omega
      have hk3 : (k : Int) ≤ 500 := by omega
      clear hk
      go_wp2_with fail
      refine (wtake_any _ _ ux k _ gx _ HS1.out.x (by rw [hl]; exact hk2)).mono ?_
      rintro e w6 ⟨rfl, hx2, ho2⟩
      have HS2 := Lib.hid (HS1.out.takex hx2 ho2)
      clear hx2 ho2
      go_wp2_with fail
      refine (mcut_any (k : Int) HS2.out.m (by have := HT.out; omega) (by omega) (by omega)).mono ?_
      rintro e w7 ⟨rfl, hm3, hf3⟩
      have HS3 := Lib.hid (HS2.out.mk1 hm3 hf3)
      clear hm3 hf3
      go_wp2_with fail
      go_roundw
      case rel => exact ⟨ob, _, _, _, _, _, HS3, Lib.hid (cstep_cut HC.out hs hk2)⟩
      case measure =>
       have q1 := HF.out
       rw [far_wk HS3.out.x, far_wk HS3.out.y, q1.1, q1.2]
       have q2 := far_adv HS.out.x hk1 (by rw [hl]; exact hk2)
       omega
    · skip
      rcases ly with _ | ⟨⟨kd', M, s⟩, ry⟩
      · exfalso
        have huy0 : uy = 0 := HS.out.y.ok.2.1 rfl
        subst huy0
        have q1 := HC.out.2
        have q2 := nO_rem_put (r := rx) (hsx _ (List.mem_cons_self ..)) (hux _ _ rfl)
        rw [q1] at q2
        exact absurd q2 (by simp [rem, units, nI])
      · rcases hby _ (List.mem_cons_self ..) with ⟨rfl | rfl, hm1, hm2, rfl⟩ | ⟨rfl, rfl, hm1, hm2⟩
        · skip
          have hu := hux _ _ rfl
          have hs := hsx _ (List.mem_cons_self ..)
          have hv := huy _ _ rfl
          have hs' := hsy _ (List.mem_cons_self ..)
          have hl : lenP ((2, 0, t) : Pt) = t.size := rfl
          have hl' : lenP ((1, M, emp) : Pt) = M.toNat := rfl
          rw [hl] at hu
          rw [hl'] at hv
          clear hbx hby hux huy hsx hsy
          go_wp2_with fail
          refine (wkind_eq 2 rfl HS.out.x).mono ?_
          rintro e wk ⟨rfl, rfl⟩
          go_wp2_with fail
          refine (wkind_eq 2 rfl HS.out.x).mono ?_
          rintro e wk ⟨rfl, rfl⟩
          go_wp2_with fail
          refine (wkind_eq 1 rfl HS.out.y).mono ?_
          rintro e wk ⟨rfl, rfl⟩
          go_wp2_with fail
          refine (wleft_any _ _ ux _ gx _ HS.out.x).mono ?_
          rintro e w5 ⟨rfl, hws⟩
          have HS1 := Lib.hid (HS.out.drawn hws)
          clear hws
          go_wp2_with fail
          refine (wleft_any _ _ uy _ gy _ HS1.out.y).mono ?_
          rintro e w6 ⟨rfl, hws⟩
          have HS2 := Lib.hid (HS1.out.drawn hws)
          clear hws
          obtain ⟨k, hk⟩ : ∃ k, min (lenP ((2, 0, t) : Pt) - ux) (lenP ((1, M, emp) : Pt) - uy) = k := ⟨_, rfl⟩
          have hkI : min ((lenP ((2, 0, t) : Pt) - ux : Nat) : Int) ((lenP ((1, M, emp) : Pt) - uy : Nat) : Int) = (k : Int) := by omega
          rw [hl, hl'] at hk
          have hk1 : 1 ≤ k := by omega
          have hk2 : ux + k ≤ t.size := by omega
          have hk4 : uy + k ≤ M.toNat := by omega
          have hk3 : (k : Int) ≤ 500 := by omega
          have HkI := Lib.hid hkI
          clear hk hkI
          go_wp2_with (first | (refine wpList_min2 rfl (.tmp 53) (.tmp 55) _ rfl _ _ _ rfl rfl HkI.out ?_))
          refine (wkind_eq 2 rfl HS2.out.x).mono ?_
          rintro e wk ⟨rfl, rfl⟩
          go_wp2_with fail
          refine (wkind_eq 1 rfl HS2.out.y).mono ?_
          rintro e wk ⟨rfl, rfl⟩
          go_wp2_with fail
          refine (wtake_any _ _ ux k _ gx _ HS2.out.x (by rw [hl]; exact hk2)).mono ?_
          rintro e w7 ⟨rfl, hx2, ho2⟩
          have HS3 := Lib.hid (HS2.out.takex hx2 ho2)
          clear hx2 ho2
          go_wp2_with fail
          refine (wtake_any _ _ uy k _ gy _ HS3.out.y (by rw [hl']; exact hk4)).mono ?_
          rintro e w8 ⟨rfl, hx2, ho2⟩
          have HS4 := Lib.hid (HS3.out.takey hx2 ho2)
          clear hx2 ho2
          rw [show tk (2, 0, t) ux k = t.extract ux (ux + k) from rfl]
          have hel : (t.extract ux (ux + k)).size ≤ 500 := by rw [ext_len hk2]; omega
          go_wp2_with fail
          refine (mput_any _ HS4.out.m (by have := HT.out; omega) (by omega)).mono ?_
          rintro e w9 ⟨rfl, hm3, hf3⟩
          have HS5 := Lib.hid (HS4.out.mk1 hm3 hf3)
          clear hm3 hf3
          go_wp2_with fail
          go_roundw
          case rel => exact ⟨ob, _, _, _, _, _, HS5, Lib.hid (cstep_pk HC.out hs hs' hk2 hk4)⟩
          case measure =>
           have q1 := HF.out
           rw [far_wk HS5.out.x, far_wk HS5.out.y, q1.1, q1.2]
           have q2 := far_adv HS.out.x hk1 (by rw [hl]; exact hk2)
           have q3 := far_adv HS.out.y hk1 (by rw [hl']; exact hk4)
           omega
        · skip
          have hu := hux _ _ rfl
          have hs := hsx _ (List.mem_cons_self ..)
          have hv := huy _ _ rfl
          have hs' := hsy _ (List.mem_cons_self ..)
          have hl : lenP ((2, 0, t) : Pt) = t.size := rfl
          have hl' : lenP ((3, M, emp) : Pt) = M.toNat := rfl
          rw [hl] at hu
          rw [hl'] at hv
          clear hbx hby hux huy hsx hsy
          go_wp2_with fail
          refine (wkind_eq 2 rfl HS.out.x).mono ?_
          rintro e wk ⟨rfl, rfl⟩
          go_wp2_with fail
          refine (wkind_eq 2 rfl HS.out.x).mono ?_
          rintro e wk ⟨rfl, rfl⟩
          go_wp2_with fail
          refine (wkind_eq 3 rfl HS.out.y).mono ?_
          rintro e wk ⟨rfl, rfl⟩
          go_wp2_with fail
          refine (wleft_any _ _ ux _ gx _ HS.out.x).mono ?_
          rintro e w5 ⟨rfl, hws⟩
          have HS1 := Lib.hid (HS.out.drawn hws)
          clear hws
          go_wp2_with fail
          refine (wleft_any _ _ uy _ gy _ HS1.out.y).mono ?_
          rintro e w6 ⟨rfl, hws⟩
          have HS2 := Lib.hid (HS1.out.drawn hws)
          clear hws
          obtain ⟨k, hk⟩ : ∃ k, min (lenP ((2, 0, t) : Pt) - ux) (lenP ((3, M, emp) : Pt) - uy) = k := ⟨_, rfl⟩
          have hkI : min ((lenP ((2, 0, t) : Pt) - ux : Nat) : Int) ((lenP ((3, M, emp) : Pt) - uy : Nat) : Int) = (k : Int) := by omega
          rw [hl, hl'] at hk
          have hk1 : 1 ≤ k := by omega
          have hk2 : ux + k ≤ t.size := by omega
          have hk4 : uy + k ≤ M.toNat := by omega
          have hk3 : (k : Int) ≤ 500 := by omega
          have HkI := Lib.hid hkI
          clear hk hkI
          go_wp2_with (first | (refine wpList_min2 rfl (.tmp 53) (.tmp 55) _ rfl _ _ _ rfl rfl HkI.out ?_))
          refine (wkind_eq 2 rfl HS2.out.x).mono ?_
          rintro e wk ⟨rfl, rfl⟩
          go_wp2_with fail
          refine (wkind_eq 3 rfl HS2.out.y).mono ?_
          rintro e wk ⟨rfl, rfl⟩
          go_wp2_with fail
          refine (wtake_any _ _ ux k _ gx _ HS2.out.x (by rw [hl]; exact hk2)).mono ?_
          rintro e w7 ⟨rfl, hx2, ho2⟩
          have HS3 := Lib.hid (HS2.out.takex hx2 ho2)
          clear hx2 ho2
          go_wp2_with fail
          refine (wtake_any _ _ uy k _ gy _ HS3.out.y (by rw [hl']; exact hk4)).mono ?_
          rintro e w8 ⟨rfl, hx2, ho2⟩
          have HS4 := Lib.hid (HS3.out.takey hx2 ho2)
          clear hx2 ho2
          go_wp2_with fail
          go_roundw
          case rel => exact ⟨ob, _, _, _, _, _, HS4, Lib.hid (cstep_pc HC.out hs hs' hk2 hk4)⟩
          case measure =>
           have q1 := HF.out
           rw [far_wk HS4.out.x, far_wk HS4.out.y, q1.1, q1.2]
           have q2 := far_adv HS.out.x hk1 (by rw [hl]; exact hk2)
           have q3 := far_adv HS.out.y hk1 (by rw [hl']; exact hk4)
           omega
        · skip
          have hu := huy _ _ rfl
          have hs := hsy _ (List.mem_cons_self ..)
          have hl : lenP ((2, 0, s) : Pt) = s.size := rfl
          rw [hl] at hu
          have hnc : ∀ r', rem ((2, 0, t) :: rx) ux ≠ some none :: r' := rem_nocut_put (hsx _ (List.mem_cons_self ..)) (hux _ _ rfl)
          have Hnc := Lib.hid hnc
          clear hbx hby hux huy hsx hsy hnc
          go_wp2_with fail
          refine (wkind_eq 2 rfl HS.out.x).mono ?_
          rintro e wk ⟨rfl, rfl⟩
          go_wp2_with fail
          refine (wkind_eq 2 rfl HS.out.x).mono ?_
          rintro e wk ⟨rfl, rfl⟩
          go_wp2_with fail
          refine (wkind_eq 2 rfl HS.out.y).mono ?_
          rintro e wk ⟨rfl, rfl⟩
          go_wp2_with fail
          refine (wleft_any _ _ uy _ gy _ HS.out.y).mono ?_
          rintro e w5 ⟨rfl, hws⟩
          have HS1 := Lib.hid (HS.out.drawn hws)
          clear hws
          obtain ⟨k, hk⟩ : ∃ k, lenP ((2, 0, s) : Pt) - uy = k := ⟨_, rfl⟩
          rw [hk]
          rw [hl] at hk
          have hk1 : 1 ≤ k := by omega
          have hk2 : uy + k ≤ s.size := by omega
          clear hk
          go_wp2_with fail
          refine (wtake_any _ _ uy k _ gy _ HS1.out.y (by rw [hl]; exact hk2)).mono ?_
          rintro e w6 ⟨rfl, hx2, ho2⟩
          have HS2 := Lib.hid (HS1.out.takey hx2 ho2)
          clear hx2 ho2
          rw [show tk (2, 0, s) uy k = s.extract uy (uy + k) from rfl]
          have hel : (s.extract uy (uy + k)).size ≤ 500 := by rw [ext_len hk2]; omega
          go_wp2_with fail
          refine (mput_any _ HS2.out.m (by have := HT.out; omega) (by omega)).mono ?_
          rintro e w7 ⟨rfl, hm3, hf3⟩
          have HS3 := Lib.hid (HS2.out.mk1 hm3 hf3)
          clear hm3 hf3
          go_wp2_with fail
          go_roundw
          case rel => exact ⟨ob, _, _, _, _, _, HS3, Lib.hid (cstep_put HC.out Hnc.out hs hk2)⟩
          case measure =>
           have q1 := HF.out
           rw [far_wk HS3.out.x, far_wk HS3.out.y, q1.1, q1.2]
           have q3 := far_adv HS.out.y hk1 (by rw [hl]; exact hk2)
           omega
theorem comp_any (a b : List Pt) (A A' : Option Addr) (n n' c c' : Nat) (w : World) (h : RdP w w.heap.size A n c a) (h' : RdP w w.heap.size A' n' c' b) :
 Calls Try.prog 103 #[.slice A n c, .slice A' n' c'] w fun e w' => ResP w w' e (compE a b) (compL a b) := by
 by_cases he : compE a b = 0
 · exact comp_good a b A A' n n' c c' w h h' he
 · exact comp_pre a b A A' n n' c c' w h h' he
def ic (l : List Int) : List Value := l.map (Value.int .i64)
theorem ic_at (l : List Int) (k : Nat) (h : k < l.length) : (ic l)[k]? = some (.int .i64 l[k]) := by simp [ic, h]
theorem ic_len (l : List Int) : (ic l).length = l.length := by simp [ic]
def RdI (w : World) (B : Nat) (A : Option Addr) (n c : Nat) (l : List Int) : Prop := n = l.length ∧ Rd w B 1 A n c (ic l)
theorem RdI.at_ {w : World} {B n c : Nat} {A : Option Addr} {l : List Int} (h : RdI w B A n c l) (k : Nat) (hk : k < n) :
 ∃ b o, A = some ⟨b, o, none⟩ ∧ b < B ∧ w.cell? ⟨b, o + k, none⟩ = some (.int .i64 (l[k]'(by have := h.1; omega))) := by
 obtain ⟨b, o, e, hb, hc⟩ := h.2.2.2.2 (by omega)
 exact ⟨b, o, e, hb, hc k _ (ic_at l k (by have := h.1; omega))⟩
theorem RdI.below {w w' : World} {B n c : Nat} {A : Option Addr} {l : List Int} (h : RdI w B A n c l) (hb : Below B w w') : RdI w' B A n c l := ⟨h.1, h.2.below hb⟩
def OwnI (w : World) (B : Nat) (v : Value) (l : List Int) : Prop := w.ownsRow B 3 1 v l.length (ic l)
theorem Try.info_int : (Try.prog.info? 3).map (fun i => (i.zero, i.size, i.bytes)) = some (some (.int .i64 0), 1, 8) := by kernel_rfl
theorem OwnI.rd {w : World} {B : Nat} {v : Value} {l : List Int} (h : OwnI w B v l) : ∃ A c, v = .slice A l.length c ∧ RdI w w.heap.size A l.length c l := by
 obtain ⟨A, c, e, hr⟩ := Rd.own h
 exact ⟨A, c, e, rfl, hr⟩
theorem own_base {w : World} {base base' : Nat} {e : TypeId} {size n : Nat} {v : Value} {xs : List Value} (h : w.ownsRow base e size v n xs) (hb : base' ≤ base) : w.ownsRow base' e size v n xs := by
 obtain ⟨h1, h2⟩ := h
 refine ⟨h1, ?_⟩
 rcases h2 with h2 | ⟨g, cap, cur, e1, hg, r⟩
 · exact .inl h2
 · exact .inr ⟨g, cap, cur, e1, by omega, r⟩
theorem RdI.built (w : World) (cs : Array Value) (l : List Int) (n : Nat) (hn : n = l.length) (hc : cs.toList = ic l) (hm : n ≤ maxLen) :
 RdI (w.alloc (.cells cs 3)) (w.heap.size + 1) (some ⟨w.heap.size, 0, none⟩) n n l := by
 refine ⟨hn, ?_⟩
 rw [← hc]
 exact Rd.built w _ cs (by have := congrArg List.length hc; simp only [Array.length_toList, ic_len] at this; omega) hm
end Go.Proofs.Ytokngfinnieccaa
namespace Go.Proofs.Ytokngfinnieccaa
set_option linter.unusedVariables false
set_option linter.unusedSimpArgs false
set_option maxRecDepth 100000
set_option maxHeartbeats 4000000
def meet1 (a b : List Pt) : List Pt := grp (cz (mt (units a) (units b)).1)
def meet2 (a b : List Pt) : List Pt := grp (cz (mt (units a) (units b)).2)
def meetE (a b : List Pt) : Int := if chk a ≠ 0 then chk a else if chk b ≠ 0 then chk b else if nI (units a) ≠ nI (units b) then 4 else if chk (meet1 a b) ≠ 0 then chk (meet1 a b) else chk (meet2 a b)
def meetC (a b : List Pt) : List Pt := if meetE a b = 0 then meet1 a b else []
def meetD (a b : List Pt) : List Pt := if meetE a b = 0 then meet2 a b else []
def MI (p q xs ys P Q : List U) : Prop := p ++ (mt xs ys).1 = P ∧ q ++ (mt xs ys).2 = Q ∧ nI xs = nI ys
section
variable {p q ys xs P Q : List U} {r rx ry : List Pt} {N M : Int} {t s : ByteArray} {u v n : Nat}
theorem mstep_x (h : MI p q (rem ((2, N, t) :: r) u) ys P Q) (hs : Shape (2, N, t)) (hu : u + n ≤ t.size) : MI (p ++ pu (t.extract u (u + n))) (q ++ ku ((t.extract u (u + n)).size : Int)) (rem (adv ((2, N, t) :: r) u n).1 (adv ((2, N, t) :: r) u n).2) ys P Q := by
 obtain ⟨h1, h2, h3⟩ := h
 rw [rem_put hs hu] at h1 h2 h3
 rw [nI_append, nI_pu] at h3
 unfold pu at h1 h2
 rw [mt_xputs] at h1 h2
 exact ⟨by rw [List.append_assoc]; exact h1, by rw [ku_nat, List.append_assoc]; exact h2, by omega⟩
theorem mstep_y (h : MI p q xs (rem ((2, M, t) :: r) u) P Q) (hx : ∀ c r, xs ≠ some (some c) :: r) (hs : Shape (2, M, t)) (hu : u + n ≤ t.size) : MI (p ++ ku ((t.extract u (u + n)).size : Int)) (q ++ pu (t.extract u (u + n))) xs (rem (adv ((2, M, t) :: r) u n).1 (adv ((2, M, t) :: r) u n).2) P Q := by
 obtain ⟨h1, h2, h3⟩ := h
 rw [rem_put hs hu] at h1 h2 h3
 rw [nI_append, nI_pu] at h3
 unfold pu at h1 h2
 rw [mt_yputs _ _ _ hx] at h1 h2
 exact ⟨by rw [ku_nat, List.append_assoc]; exact h1, by rw [List.append_assoc]; exact h2, by omega⟩
theorem mstep_kk (h : MI p q (rem ((1, N, t) :: rx) u) (rem ((1, M, s) :: ry) v) P Q) (hs : Shape (1, N, t)) (hs' : Shape (1, M, s)) (hu : u + n ≤ N.toNat) (hv : v + n ≤ M.toNat) :
 MI (p ++ ku n) (q ++ ku n) (rem (adv ((1, N, t) :: rx) u n).1 (adv ((1, N, t) :: rx) u n).2) (rem (adv ((1, M, s) :: ry) v n).1 (adv ((1, M, s) :: ry) v n).2) P Q := by
 obtain ⟨h1, h2, h3⟩ := h
 rw [rem_keep hs hu, rem_keep hs' hv] at h1 h2 h3
 rw [mt_kk] at h1 h2
 rw [nI_append, nI_append, nI_keeps] at h3
 exact ⟨by rw [ku_nat, List.append_assoc]; exact h1, by rw [ku_nat, List.append_assoc]; exact h2, by omega⟩
theorem mstep_kc (h : MI p q (rem ((1, N, t) :: rx) u) (rem ((3, M, s) :: ry) v) P Q) (hs : Shape (1, N, t)) (hs' : Shape (3, M, s)) (hu : u + n ≤ N.toNat) (hv : v + n ≤ M.toNat) :
 MI p (q ++ cu n) (rem (adv ((1, N, t) :: rx) u n).1 (adv ((1, N, t) :: rx) u n).2) (rem (adv ((3, M, s) :: ry) v n).1 (adv ((3, M, s) :: ry) v n).2) P Q := by
 obtain ⟨h1, h2, h3⟩ := h
 rw [rem_keep hs hu, rem_cut hs' hv] at h1 h2 h3
 rw [mt_kc] at h1 h2
 rw [nI_append, nI_append, nI_keeps, nI_cuts] at h3
 exact ⟨h1, by rw [cu_nat, List.append_assoc]; exact h2, by omega⟩
theorem mstep_ck (h : MI p q (rem ((3, N, t) :: rx) u) (rem ((1, M, s) :: ry) v) P Q) (hs : Shape (3, N, t)) (hs' : Shape (1, M, s)) (hu : u + n ≤ N.toNat) (hv : v + n ≤ M.toNat) :
 MI (p ++ cu n) q (rem (adv ((3, N, t) :: rx) u n).1 (adv ((3, N, t) :: rx) u n).2) (rem (adv ((1, M, s) :: ry) v n).1 (adv ((1, M, s) :: ry) v n).2) P Q := by
 obtain ⟨h1, h2, h3⟩ := h
 rw [rem_cut hs hu, rem_keep hs' hv] at h1 h2 h3
 rw [mt_ck] at h1 h2
 rw [nI_append, nI_append, nI_keeps, nI_cuts] at h3
 exact ⟨by rw [cu_nat, List.append_assoc]; exact h1, h2, by omega⟩
theorem mstep_cc (h : MI p q (rem ((3, N, t) :: rx) u) (rem ((3, M, s) :: ry) v) P Q) (hs : Shape (3, N, t)) (hs' : Shape (3, M, s)) (hu : u + n ≤ N.toNat) (hv : v + n ≤ M.toNat) :
 MI p q (rem (adv ((3, N, t) :: rx) u n).1 (adv ((3, N, t) :: rx) u n).2) (rem (adv ((3, M, s) :: ry) v n).1 (adv ((3, M, s) :: ry) v n).2) P Q := by
 obtain ⟨h1, h2, h3⟩ := h
 rw [rem_cut hs hu, rem_cut hs' hv] at h1 h2 h3
 rw [mt_cc] at h1 h2
 rw [nI_append, nI_append, nI_cuts] at h3
 exact ⟨h1, h2, by omega⟩
end
theorem MI.len {p q xs ys P Q : List U} (h : MI p q xs ys P Q) : p.length ≤ P.length ∧ q.length ≤ Q.length := by
 constructor
 · rw [← h.1, List.length_append]; omega
 · rw [← h.2.1, List.length_append]; omega
theorem MI.fin {p q P Q : List U} (h : MI p q [] [] P Q) : p = P ∧ q = Q := by
 have h1 := h.1
 have h2 := h.2.1
 simp [mt, lead] at h1 h2
 exact ⟨h1, h2⟩
theorem nO_mt (a b : List U) (h : nI a = nI b) : nO (mt a b).1 = nO (mt a b).2 ∧ nO (mt a b).1 ≤ nO a + nP b := by
 refine mt_ind (M := fun a b => nO (mt a b).1 = nO (mt a b).2 ∧ nO (mt a b).1 ≤ nO a + nP b) ⟨rfl, Nat.zero_le _⟩ ?_ ?_ ?_ ?_ ?_ ?_ _ a b (Nat.le_refl _) h
 · intro b xs ys h ih; simp only [mt, nO, nP] at ih ⊢; omega
 · intro xs b ys hx h ih; rw [mt_put _ _ _ hx]; simp only [nO, nP] at ih ⊢; omega
 all_goals intro xs ys h ih; simp only [mt, nO, nP, lead, rst, List.map_nil, List.nil_append] at ih ⊢; omega
theorem nP_le : ∀ us : List U, nP us ≤ nO us
 | [] => Nat.le_refl _
 | none :: us => by have := nP_le us; simp only [nP, nO]; omega
 | some none :: us => by have := nP_le us; simp only [nP, nO]; omega
 | some (some b) :: us => by have := nP_le us; simp only [nP, nO]; omega
theorem meet_chk {a b : List Pt} (h : meetE a b = 0) : chk a = 0 ∧ chk b = 0 ∧ nI (units a) = nI (units b) ∧ chk (meet1 a b) = 0 ∧ chk (meet2 a b) = 0 ∧ meetC a b = meet1 a b ∧ meetD a b = meet2 a b := by
 have e1 : meetC a b = meet1 a b := by unfold meetC; rw [if_pos h]
 have e2 : meetD a b = meet2 a b := by unfold meetD; rw [if_pos h]
 unfold meetE at h
 split at h
 · omega
 · split at h
   · omega
   · split at h
     · omega
     · split at h
       · omega
       · exact ⟨by omega, by omega, by omega, by omega, h, e1, e2⟩
theorem meet_err {a b : List Pt} (h : meetE a b ≠ 0) : meetC a b = [] ∧ meetD a b = [] := by unfold meetC meetD; rw [if_neg h, if_neg h]; exact ⟨rfl, rfl⟩
theorem meet_units {a b : List Pt} (h : meetE a b = 0) : units (meetC a b) = cz (mt (units a) (units b)).1 ∧ units (meetD a b) = cz (mt (units a) (units b)).2 := by
 have hc := meet_chk h
 rw [hc.2.2.2.2.2.1, hc.2.2.2.2.2.2]
 exact ⟨units_grp _, units_grp _⟩
theorem meet_good {a b : List Pt} (h : meetE a b = 0) : chk (meetC a b) = 0 ∧ chk (meetD a b) = 0 := by
 have hc := meet_chk h
 rw [hc.2.2.2.2.2.1, hc.2.2.2.2.2.2]
 exact ⟨hc.2.2.2.1, hc.2.2.2.2.1⟩
theorem meet_sizes {a b : List Pt} (h : meetE a b = 0) : nI (units (meetC a b)) = nO (units b) ∧ nI (units (meetD a b)) = nO (units a) ∧ nO (units (meetC a b)) = nO (units (meetD a b)) ∧ nP (units (meetC a b)) = nP (units a) ∧ nP (units (meetD a b)) = nP (units b) := by
 have hn := (meet_chk h).2.2.1
 obtain ⟨u1, u2⟩ := meet_units h
 have m1 := nI_mt (units a) (units b) hn
 have m2 := nO_mt (units a) (units b) hn
 have m3 := nP_mt (units a) (units b) hn
 rw [u1, u2, nI_cz, nI_cz, nO_cz, nO_cz, nP_cz, nP_cz]
 exact ⟨m1.1, m1.2, m2.1, m3.1, m3.2⟩
theorem meet_zero {a b : List Pt} (ha : chk a = 0) (hb : chk b = 0) (hn : nI (units a) = nI (units b)) (ho : nO (mt (units a) (units b)).1 ≤ 500) : meetE a b = 0 := by
 have m1 := nI_mt (units a) (units b) hn
 have m2 := nO_mt (units a) (units b) hn
 have k1 : chk (meet1 a b) = 0 := good_cz (by rw [m1.1]; exact (chk_parts hb).2.2.2.2.1) ho
 have k2 : chk (meet2 a b) = 0 := good_cz (by rw [m1.2]; exact (chk_parts ha).2.2.2.2.1) (by rw [← m2.1]; exact ho)
 unfold meetE
 rw [if_neg (by omega), if_neg (by omega), if_neg (by omega), if_neg (by omega), k2]
theorem meet_comp {a b : List Pt} (h : meetE a b = 0) : compE a (meetD a b) = 0 ∧ compE b (meetC a b) = 0 ∧ compL a (meetD a b) = compL b (meetC a b) := by
 have hc := meet_chk h
 have hg := meet_good h
 have hs := meet_sizes h
 have hu := meet_units h
 have e1 : compE a (meetD a b) = 0 := comp_zero hc.1 hg.2 hs.2.1.symm
 have e2 : compE b (meetC a b) = 0 := comp_zero hc.2.1 hg.1 hs.1.symm
 exact ⟨e1, e2, comp_eq e1 e2 (by rw [hu.1, hu.2]; exact meet_same hc.2.2.1)⟩
end Go.Proofs.Ytokngfinnieccaa
