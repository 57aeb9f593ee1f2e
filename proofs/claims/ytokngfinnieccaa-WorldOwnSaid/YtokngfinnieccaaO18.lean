/- Contract of client.Edit. -/
import Derived.Test.YtokngfinnieccaaO17
namespace Go.Proofs.Ytokngfinnieccaa
open Go.ChangeShapes Go.WideShapes Go.RowKit
set_option linter.unusedVariables false
set_option linter.unusedSimpArgs false
set_option maxRecDepth 100000
set_option maxHeartbeats 4000000
abbrev OwnSl (w : World) (B : Nat) (s : Sl) (l : List Pt) : Prop := OwnP w B (.slice s.1 s.2.1 s.2.2) l
def edL (c : Cl) (d : List Pt) : Cl :=
 if c.fly = false then { c with text := doS d c.text, fly := true, sent := d, seq := c.seq + 1 }
 else if c.wait = false then { c with text := doS d c.text, wait := true, held := d }
 else { c with text := doS d c.text, held := compL c.held d }
theorem cedit_F (a r sq : Int) (t : ByteArray) (f q : Bool) (S H : List Pt) (A A' : Option Addr) (n n' cp cp' : Nat) (d : List Pt) (A2 : Option Addr) (n2 c2 : Nat) (w : World) (hk : CkOk ⟨a, r, sq, t, f, S, q, H⟩)
 (hS : RdP w w.heap.size A n cp S) (hH : RdP w w.heap.size A' n' cp' H) (hd : RdP w w.heap.size A2 n2 c2 d) (hn : n ≤ 4000000) (hn' : n' ≤ 4000000) (hn2 : n2 ≤ 4000000) (he : doE d t = 0) (hf : f = false) (hq : sq ≠ 2147483647) :
 Calls Try.prog 72 #[.agg #[.int .i64 a, .int .i64 r, .int .i64 sq, .string t, .bool f, .slice A n cp, .bool q, .slice A' n' cp'], .slice A2 n2 c2] w fun e w' => ∃ s1 h1 : Sl, e = .returned (.tuple #[clv ⟨a, r, sq + 1, doS d t, true, d, q, H⟩ s1 h1, .int .i64 0]) ∧ OwnSl w' w.heap.size s1 d ∧ OwnSl w' w.heap.size h1 H ∧ Below w.heap.size w w' := by
 subst hf
 have hqf : (sq == 2147483647) = false := by simpa using hq
 clear hq
 have hs5 := hk.text
 have Hk := Lib.hid hk
 have HS := Lib.hid hS
 have HH := Lib.hid hH
 have Hd := Lib.hid hd
 have He := Lib.hid he
 have hsq0 := hk.seq0
 have hsq1 := hk.seq1
 simp only at hs5 hsq0 hsq1
 clear hk hS hH hd he
 have hb0 : Below w.heap.size w w := Below.refl _ _
 have hb1 := hb0.alloc hb0.size (.cells #[.int .i64 a, .int .i64 r, .int .i64 sq, .string t, .bool false, .slice A n cp, .bool q, .slice A' n' cp'] 92)
 have kc := Blk.new w 92 #[.int .i64 a, .int .i64 r, .int .i64 sq, .string t, .bool false, .slice A n cp, .bool q, .slice A' n' cp']
 have hb2 := hb1.alloc hb1.size (.cells #[.int .i64 0, .int .i64 0, .int .i64 0, .string ⟨#[]⟩, .bool false, .slice none 0 0, .bool false, .slice none 0 0] 92)
 replace kc := kc.alloc (.cells #[.int .i64 0, .int .i64 0, .int .i64 0, .string ⟨#[]⟩, .bool false, .slice none 0 0, .bool false, .slice none 0 0] 92)
 have kr := Blk.new (w.alloc (.cells #[.int .i64 a, .int .i64 r, .int .i64 sq, .string t, .bool false, .slice A n cp, .bool q, .slice A' n' cp'] 92)) 92 #[.int .i64 0, .int .i64 0, .int .i64 0, .string ⟨#[]⟩, .bool false, .slice none 0 0, .bool false, .slice none 0 0]
 clear hb0 hb1
 have hb := hb2
 clear hb2
 simp only [World.size_alloc] at kc kr
 go_enter Try.func72, Try.ntmps72
 go_upto_region 1 with (fail)
 generalize ((w.alloc (.cells #[.int .i64 a, .int .i64 r, .int .i64 sq, .string t, .bool false, .slice A n cp, .bool q, .slice A' n' cp'] 92)).alloc (.cells #[.int .i64 0, .int .i64 0, .int .i64 0, .string ⟨#[]⟩, .bool false, .slice none 0 0, .bool false, .slice none 0 0] 92)) = W0 at *
 obtain ⟨g, hbase⟩ : ∃ g, w.heap.size = g := ⟨_, rfl⟩
 rw [hbase] at hb kc kr ⊢
 have hsz : g ≤ W0.heap.size := by have := hb.size; omega
 have lc := kc.lt
 have lr := kr.lt
 have HS := Lib.hid (hbase ▸ HS.out)
 have HH := Lib.hid (hbase ▸ HH.out)
 have Hd := Lib.hid (hbase ▸ Hd.out)
 go_wp2_with (first | (refine wpList_load_blk rfl _ (.tmp 2) rfl g rfl _ (client_row kc rfl) ?_))
 refine (ccheck_good ⟨a, r, sq, t, false, S, q, H⟩ (A, n, cp) (A', n', cp') W0 Hk.out ((HS.out.below hb).more hsz) ((HH.out.below hb).more hsz)).mono ?_
 rintro e v1 ⟨rfl, hv1⟩
 replace kc := kc.below hv1 kc.lt
 replace lc := kc.lt
 replace kr := kr.below hv1 kr.lt
 replace lr := kr.lt
 replace hb := hb.trans (hv1.mono hsz)
 replace hsz : g ≤ v1.heap.size := Nat.le_trans hsz hv1.size
 clear hv1
 go_upto_region 4 with (fail)
 have cc_3 := kc.cell 3
 go_wp2_with fail
 have hc := do_any d A2 n2 c2 g t v1 (Hd.out.below hb) hsz (by omega)
 rw [He.out] at hc
 clear cc_3
 refine (hc).mono ?_
 rintro e v2 ⟨rfl, hv2⟩
 replace kc := kc.below hv2 kc.lt
 replace lc := kc.lt
 replace kr := kr.below hv2 kr.lt
 replace lr := kr.lt
 replace hb := hb.trans (hv2.mono hsz)
 replace hsz : g ≤ v2.heap.size := Nat.le_trans hsz hv2.size
 clear hv2
 clear hc
 go_upto_region 7 with (fail)
 go_wp2_with (first | (refine wpList_load_blk rfl _ (.tmp 2) rfl g rfl _ (client_row kc rfl) ?_))
 refine (ccopied_any ⟨a, r, sq, t, false, S, q, H⟩ (A, n, cp) (A', n', cp') v2 ((HS.out.below hb).more hsz) ((HH.out.below hb).more hsz) hn hn').mono ?_
 rintro e vc ⟨A1, n1, c1, A3, n3, c3, rfl, hp1, hp2, -, hvc⟩
 have oS := Lib.hid hp1
 have oH := Lib.hid hp2
 clear hp1 hp2
 obtain ⟨Z, hZ⟩ : ∃ Z, v2.heap.size = Z := ⟨_, rfl⟩
 rw [hZ] at oS oH
 have hgZ : g + 1 < Z := by omega
 replace kc := kc.below hvc kc.lt
 replace lc := kc.lt
 replace kr := kr.below hvc kr.lt
 replace lr := kr.lt
 replace hb := hb.trans (hvc.mono hsz)
 replace hsz : g ≤ vc.heap.size := Nat.le_trans hsz hvc.size
 clear hvc
 unfold clv clc
 go_upto_region 8 with (fail)
 replace kc := kc.alloc (.cells #[.int .i64 a, .int .i64 r, .int .i64 sq, .string t, .bool false, .slice A1 n1 c1, .bool q, .slice A3 n3 c3] 92)
 replace kr := kr.alloc (.cells #[.int .i64 a, .int .i64 r, .int .i64 sq, .string t, .bool false, .slice A1 n1 c1, .bool q, .slice A3 n3 c3] 92)
 have ko := Blk.new vc 92 #[.int .i64 a, .int .i64 r, .int .i64 sq, .string t, .bool false, .slice A1 n1 c1, .bool q, .slice A3 n3 c3]
 replace oS := Lib.hid (World.ownsRow.alloc oS.out (.cells #[.int .i64 a, .int .i64 r, .int .i64 sq, .string t, .bool false, .slice A1 n1 c1, .bool q, .slice A3 n3 c3] 92))
 replace oH := Lib.hid (World.ownsRow.alloc oH.out (.cells #[.int .i64 a, .int .i64 r, .int .i64 sq, .string t, .bool false, .slice A1 n1 c1, .bool q, .slice A3 n3 c3] 92))
 replace hb := hb.alloc hsz (.cells #[.int .i64 a, .int .i64 r, .int .i64 sq, .string t, .bool false, .slice A1 n1 c1, .bool q, .slice A3 n3 c3] 92)
 have hs4 : (vc.alloc (.cells #[.int .i64 a, .int .i64 r, .int .i64 sq, .string t, .bool false, .slice A1 n1 c1, .bool q, .slice A3 n3 c3] 92)).heap.size = vc.heap.size + 1 := by simp
 generalize (vc.alloc (.cells #[.int .i64 a, .int .i64 r, .int .i64 sq, .string t, .bool false, .slice A1 n1 c1, .bool q, .slice A3 n3 c3] 92)) = U4 at *
 obtain ⟨b, heb⟩ : ∃ b, vc.heap.size = b := ⟨_, rfl⟩
 rw [heb] at ko ⊢
 have nb4 : g ≤ b := by omega
 replace hsz : g ≤ U4.heap.size := by omega
 have nq4_c : g < b := by omega
 have nq4_r : g + 1 < b := by omega
 have lo := ko.lt
 have co_3 := ko.cell 3
 have fo_3 := ko.frozen 3
 go_upto_region 10 with (fail)
 clear co_3 fo_3
 have ho5 : Only U4 (U4.setCell ⟨b, 3, none⟩ (.string (doS d t))) (fun k => k = b) := (Only.setCell (S := fun k => k = b) U4 ⟨b, 3, none⟩ (.string (doS d t)) (by simp))
 replace oS := Lib.hid (own_only oS.out ho5 (fun k hk h_ => by rcases h_ with rfl <;> first | exact own_blk_ne oS.out ko (by decide) hk))
 replace oH := Lib.hid (own_only oH.out ho5 (fun k hk h_ => by rcases h_ with rfl <;> first | exact own_blk_ne oH.out ko (by decide) hk))
 replace kc : Blk (U4.setCell ⟨b, 3, none⟩ (.string (doS d t))) g 92 #[.int .i64 a, .int .i64 r, .int .i64 sq, .string t, .bool false, .slice A n cp, .bool q, .slice A' n' cp'] := (kc.far (p := ⟨b, 3, none⟩) (by simp only; omega) (.string (doS d t)))
 replace kr : Blk (U4.setCell ⟨b, 3, none⟩ (.string (doS d t))) (g + 1) 92 #[.int .i64 0, .int .i64 0, .int .i64 0, .string ⟨#[]⟩, .bool false, .slice none 0 0, .bool false, .slice none 0 0] := (kr.far (p := ⟨b, 3, none⟩) (by simp only; omega) (.string (doS d t)))
 replace ko : Blk (U4.setCell ⟨b, 3, none⟩ (.string (doS d t))) b 92 #[.int .i64 a, .int .i64 r, .int .i64 sq, .string (doS d t), .bool false, .slice A1 n1 c1, .bool q, .slice A3 n3 c3] := (ko.set_ 3 (.string (doS d t)))
 replace hb : Below g w (U4.setCell ⟨b, 3, none⟩ (.string (doS d t))) := (hb.setCell (p := ⟨b, 3, none⟩) (by simp only; omega) (.string (doS d t)))
 have hs5 : (U4.setCell ⟨b, 3, none⟩ (.string (doS d t))).heap.size = U4.heap.size := by simp
 generalize (U4.setCell ⟨b, 3, none⟩ (.string (doS d t))) = U5 at *
 replace hsz : g ≤ U5.heap.size := by omega
 replace lc := kc.lt
 replace lr := kr.lt
 replace lo := ko.lt
 have cc_4 := kc.cell 4
 have cc_2 := kc.cell 2
 go_upto_region 13 with (fail)
 clear cc_4 cc_2
 go_upto_region 14 with (first | (at_builtin; go_loud (refine wpList_app_partsC _ rfl (.const (.slice none 0 0)) (.tmp 47) rfl U5.heap.size _ [] rfl (OwnP.nil _ _) A2 n2 c2 _ d rfl (Hd.out.below hb) (by simp; omega) (Nat.le_refl _) ?_; intro vd wd qd hvd; rw [List.nil_append] at qd; obtain ⟨A5, c5, rfl⟩ := qd.form_ (n := n2) Hd.out.1.symm; have ko_ := ko.below hvd ko.lt; have e4 := ko_.cell 4; have e5 := ko_.cell 5; have f4 := ko_.frozen 4; have f5 := ko_.frozen 5; have lo_ := ko_.lt)))
 clear e4 e5 f4 f5 ko_ lo_
 replace kc := kc.below hvd kc.lt
 replace lc := kc.lt
 replace kr := kr.below hvd kr.lt
 replace lr := kr.lt
 replace ko := ko.below hvd ko.lt
 replace lo := ko.lt
 replace oS := Lib.hid (own_below oS.out hvd)
 replace oH := Lib.hid (own_below oH.out hvd)
 replace hb := hb.trans (hvd.mono hsz)
 replace hsz : g ≤ wd.heap.size := Nat.le_trans hsz hvd.size
 clear hvd
 have oD := Lib.hid qd
 clear qd
 have ho6 : Only wd ((wd.setCell ⟨b, 4, none⟩ (.bool true)).setCell ⟨b, 5, none⟩ (.slice A5 n2 c5)) (fun k => k = b) := ((Only.setCell (S := fun k => k = b) wd ⟨b, 4, none⟩ (.bool true) (by simp)).trans (Only.setCell (S := fun k => k = b) (wd.setCell ⟨b, 4, none⟩ (.bool true)) ⟨b, 5, none⟩ (.slice A5 n2 c5) (by simp)))
 replace oS := Lib.hid (own_only oS.out ho6 (fun k hk h_ => by rcases h_ with rfl <;> first | exact own_blk_ne oS.out ko (by decide) hk))
 replace oH := Lib.hid (own_only oH.out ho6 (fun k hk h_ => by rcases h_ with rfl <;> first | exact own_blk_ne oH.out ko (by decide) hk))
 replace oD := Lib.hid (own_only oD.out ho6 (fun k hk h_ => by rcases h_ with rfl <;> first | exact own_blk_ne oD.out ko (by decide) hk))
 replace kc : Blk ((wd.setCell ⟨b, 4, none⟩ (.bool true)).setCell ⟨b, 5, none⟩ (.slice A5 n2 c5)) g 92 #[.int .i64 a, .int .i64 r, .int .i64 sq, .string t, .bool false, .slice A n cp, .bool q, .slice A' n' cp'] := ((kc.far (p := ⟨b, 4, none⟩) (by simp only; omega) (.bool true)).far (p := ⟨b, 5, none⟩) (by simp only; omega) (.slice A5 n2 c5))
 replace kr : Blk ((wd.setCell ⟨b, 4, none⟩ (.bool true)).setCell ⟨b, 5, none⟩ (.slice A5 n2 c5)) (g + 1) 92 #[.int .i64 0, .int .i64 0, .int .i64 0, .string ⟨#[]⟩, .bool false, .slice none 0 0, .bool false, .slice none 0 0] := ((kr.far (p := ⟨b, 4, none⟩) (by simp only; omega) (.bool true)).far (p := ⟨b, 5, none⟩) (by simp only; omega) (.slice A5 n2 c5))
 replace ko : Blk ((wd.setCell ⟨b, 4, none⟩ (.bool true)).setCell ⟨b, 5, none⟩ (.slice A5 n2 c5)) b 92 #[.int .i64 a, .int .i64 r, .int .i64 sq, .string (doS d t), .bool true, .slice A5 n2 c5, .bool q, .slice A3 n3 c3] := ((ko.set_ 4 (.bool true)).set_ 5 (.slice A5 n2 c5))
 replace hb : Below g w ((wd.setCell ⟨b, 4, none⟩ (.bool true)).setCell ⟨b, 5, none⟩ (.slice A5 n2 c5)) := ((hb.setCell (p := ⟨b, 4, none⟩) (by simp only; omega) (.bool true)).setCell (p := ⟨b, 5, none⟩) (by simp only; omega) (.slice A5 n2 c5))
 have hs6 : ((wd.setCell ⟨b, 4, none⟩ (.bool true)).setCell ⟨b, 5, none⟩ (.slice A5 n2 c5)).heap.size = wd.heap.size := by simp
 generalize ((wd.setCell ⟨b, 4, none⟩ (.bool true)).setCell ⟨b, 5, none⟩ (.slice A5 n2 c5)) = U6 at *
 replace hsz : g ≤ U6.heap.size := by omega
 replace lc := kc.lt
 replace lr := kr.lt
 replace lo := ko.lt
 have co_2 := ko.cell 2
 have fo_2 := ko.frozen 2
 go_upto_region 17 with (fail)
 clear co_2 fo_2
 have ho7 : Only U6 (U6.setCell ⟨b, 2, none⟩ (.int .i64 (sq + 1))) (fun k => k = b) := (Only.setCell (S := fun k => k = b) U6 ⟨b, 2, none⟩ (.int .i64 (sq + 1)) (by simp))
 replace oS := Lib.hid (own_only oS.out ho7 (fun k hk h_ => by rcases h_ with rfl <;> first | exact own_blk_ne oS.out ko (by decide) hk))
 replace oH := Lib.hid (own_only oH.out ho7 (fun k hk h_ => by rcases h_ with rfl <;> first | exact own_blk_ne oH.out ko (by decide) hk))
 replace oD := Lib.hid (own_only oD.out ho7 (fun k hk h_ => by rcases h_ with rfl <;> first | exact own_blk_ne oD.out ko (by decide) hk))
 replace kc : Blk (U6.setCell ⟨b, 2, none⟩ (.int .i64 (sq + 1))) g 92 #[.int .i64 a, .int .i64 r, .int .i64 sq, .string t, .bool false, .slice A n cp, .bool q, .slice A' n' cp'] := (kc.far (p := ⟨b, 2, none⟩) (by simp only; omega) (.int .i64 (sq + 1)))
 replace kr : Blk (U6.setCell ⟨b, 2, none⟩ (.int .i64 (sq + 1))) (g + 1) 92 #[.int .i64 0, .int .i64 0, .int .i64 0, .string ⟨#[]⟩, .bool false, .slice none 0 0, .bool false, .slice none 0 0] := (kr.far (p := ⟨b, 2, none⟩) (by simp only; omega) (.int .i64 (sq + 1)))
 replace ko : Blk (U6.setCell ⟨b, 2, none⟩ (.int .i64 (sq + 1))) b 92 #[.int .i64 a, .int .i64 r, .int .i64 (sq + 1), .string (doS d t), .bool true, .slice A5 n2 c5, .bool q, .slice A3 n3 c3] := (ko.set_ 2 (.int .i64 (sq + 1)))
 replace hb : Below g w (U6.setCell ⟨b, 2, none⟩ (.int .i64 (sq + 1))) := (hb.setCell (p := ⟨b, 2, none⟩) (by simp only; omega) (.int .i64 (sq + 1)))
 have hs7 : (U6.setCell ⟨b, 2, none⟩ (.int .i64 (sq + 1))).heap.size = U6.heap.size := by simp
 generalize (U6.setCell ⟨b, 2, none⟩ (.int .i64 (sq + 1))) = U7 at *
 replace hsz : g ≤ U7.heap.size := by omega
 replace lc := kc.lt
 replace lr := kr.lt
 replace lo := ko.lt
 go_wp2_with (first | (refine wpList_load_blk rfl _ (.tmp 9) rfl b rfl _ (client_row ko rfl) ?_) | (refine wpList_store_blk rfl _ (.tmp 4) (.tmp 63) rfl (g + 1) _ rfl rfl _ _ kr client_info rfl (by simp [Value.oneCell']) ?_))
 have kz := kr.row #[.int .i64 a, .int .i64 r, .int .i64 (sq + 1), .string (doS d t), .bool true, .slice A5 n2 c5, .bool q, .slice A3 n3 c3]
 have hz := below_setRow hb (g + 1) #[.int .i64 a, .int .i64 r, .int .i64 (sq + 1), .string (doS d t), .bool true, .slice A5 n2 c5, .bool q, .slice A3 n3 c3] (by omega)
 have hzo := Only.setRow U7 (g + 1) #[.int .i64 a, .int .i64 r, .int .i64 (sq + 1), .string (doS d t), .bool true, .slice A5 n2 c5, .bool q, .slice A3 n3 c3]
 have zS := own_only oS.out hzo (fun k hk h_ => by rcases h_ with rfl; exact own_blk_ne oS.out kr (by decide) hk)
 have zH := own_only oH.out hzo (fun k hk h_ => by rcases h_ with rfl; exact own_blk_ne oH.out kr (by decide) hk)
 have zD := own_only oD.out hzo (fun k hk h_ => by rcases h_ with rfl; exact own_blk_ne oD.out kr (by decide) hk)
 refine row_end2 rfl rfl rfl rfl (client_row kz rfl) ?_
 exact ⟨(A5, n2, c5), (A3, n3, c3), rfl, own_base zD (by omega), own_base zH (by omega), hbase ▸ hz⟩
theorem cedit_T (a r sq : Int) (t : ByteArray) (f q : Bool) (S H : List Pt) (A A' : Option Addr) (n n' cp cp' : Nat) (d : List Pt) (A2 : Option Addr) (n2 c2 : Nat) (w : World) (hk : CkOk ⟨a, r, sq, t, f, S, q, H⟩)
 (hS : RdP w w.heap.size A n cp S) (hH : RdP w w.heap.size A' n' cp' H) (hd : RdP w w.heap.size A2 n2 c2 d) (hn : n ≤ 4000000) (hn' : n' ≤ 4000000) (hn2 : n2 ≤ 4000000) (he : doE d t = 0) (hf : f = true) (hq : q = false) :
 Calls Try.prog 72 #[.agg #[.int .i64 a, .int .i64 r, .int .i64 sq, .string t, .bool f, .slice A n cp, .bool q, .slice A' n' cp'], .slice A2 n2 c2] w fun e w' => ∃ s1 h1 : Sl, e = .returned (.tuple #[clv ⟨a, r, sq, doS d t, true, S, true, d⟩ s1 h1, .int .i64 0]) ∧ OwnSl w' w.heap.size s1 S ∧ OwnSl w' w.heap.size h1 d ∧ Below w.heap.size w w' := by
 subst hf
 subst hq
 have hs5 := hk.text
 have Hk := Lib.hid hk
 have HS := Lib.hid hS
 have HH := Lib.hid hH
 have Hd := Lib.hid hd
 have He := Lib.hid he
 have hsq0 := hk.seq0
 have hsq1 := hk.seq1
 simp only at hs5 hsq0 hsq1
 clear hk hS hH hd he
 have hb0 : Below w.heap.size w w := Below.refl _ _
 have hb1 := hb0.alloc hb0.size (.cells #[.int .i64 a, .int .i64 r, .int .i64 sq, .string t, .bool true, .slice A n cp, .bool false, .slice A' n' cp'] 92)
 have kc := Blk.new w 92 #[.int .i64 a, .int .i64 r, .int .i64 sq, .string t, .bool true, .slice A n cp, .bool false, .slice A' n' cp']
 have hb2 := hb1.alloc hb1.size (.cells #[.int .i64 0, .int .i64 0, .int .i64 0, .string ⟨#[]⟩, .bool false, .slice none 0 0, .bool false, .slice none 0 0] 92)
 replace kc := kc.alloc (.cells #[.int .i64 0, .int .i64 0, .int .i64 0, .string ⟨#[]⟩, .bool false, .slice none 0 0, .bool false, .slice none 0 0] 92)
 have kr := Blk.new (w.alloc (.cells #[.int .i64 a, .int .i64 r, .int .i64 sq, .string t, .bool true, .slice A n cp, .bool false, .slice A' n' cp'] 92)) 92 #[.int .i64 0, .int .i64 0, .int .i64 0, .string ⟨#[]⟩, .bool false, .slice none 0 0, .bool false, .slice none 0 0]
 clear hb0 hb1
 have hb := hb2
 clear hb2
 simp only [World.size_alloc] at kc kr
 go_enter Try.func72, Try.ntmps72
 go_upto_region 1 with (fail)
 generalize ((w.alloc (.cells #[.int .i64 a, .int .i64 r, .int .i64 sq, .string t, .bool true, .slice A n cp, .bool false, .slice A' n' cp'] 92)).alloc (.cells #[.int .i64 0, .int .i64 0, .int .i64 0, .string ⟨#[]⟩, .bool false, .slice none 0 0, .bool false, .slice none 0 0] 92)) = W0 at *
 obtain ⟨g, hbase⟩ : ∃ g, w.heap.size = g := ⟨_, rfl⟩
 rw [hbase] at hb kc kr ⊢
 have hsz : g ≤ W0.heap.size := by have := hb.size; omega
 have lc := kc.lt
 have lr := kr.lt
 have HS := Lib.hid (hbase ▸ HS.out)
 have HH := Lib.hid (hbase ▸ HH.out)
 have Hd := Lib.hid (hbase ▸ Hd.out)
 go_wp2_with (first | (refine wpList_load_blk rfl _ (.tmp 2) rfl g rfl _ (client_row kc rfl) ?_))
 refine (ccheck_good ⟨a, r, sq, t, true, S, false, H⟩ (A, n, cp) (A', n', cp') W0 Hk.out ((HS.out.below hb).more hsz) ((HH.out.below hb).more hsz)).mono ?_
 rintro e v1 ⟨rfl, hv1⟩
 replace kc := kc.below hv1 kc.lt
 replace lc := kc.lt
 replace kr := kr.below hv1 kr.lt
 replace lr := kr.lt
 replace hb := hb.trans (hv1.mono hsz)
 replace hsz : g ≤ v1.heap.size := Nat.le_trans hsz hv1.size
 clear hv1
 go_upto_region 4 with (fail)
 have cc_3 := kc.cell 3
 go_wp2_with fail
 have hc := do_any d A2 n2 c2 g t v1 (Hd.out.below hb) hsz (by omega)
 rw [He.out] at hc
 clear cc_3
 refine (hc).mono ?_
 rintro e v2 ⟨rfl, hv2⟩
 replace kc := kc.below hv2 kc.lt
 replace lc := kc.lt
 replace kr := kr.below hv2 kr.lt
 replace lr := kr.lt
 replace hb := hb.trans (hv2.mono hsz)
 replace hsz : g ≤ v2.heap.size := Nat.le_trans hsz hv2.size
 clear hv2
 clear hc
 go_upto_region 7 with (fail)
 go_wp2_with (first | (refine wpList_load_blk rfl _ (.tmp 2) rfl g rfl _ (client_row kc rfl) ?_))
 refine (ccopied_any ⟨a, r, sq, t, true, S, false, H⟩ (A, n, cp) (A', n', cp') v2 ((HS.out.below hb).more hsz) ((HH.out.below hb).more hsz) hn hn').mono ?_
 rintro e vc ⟨A1, n1, c1, A3, n3, c3, rfl, hp1, hp2, -, hvc⟩
 have oS := Lib.hid hp1
 have oH := Lib.hid hp2
 clear hp1 hp2
 obtain ⟨Z, hZ⟩ : ∃ Z, v2.heap.size = Z := ⟨_, rfl⟩
 rw [hZ] at oS oH
 have hgZ : g + 1 < Z := by omega
 replace kc := kc.below hvc kc.lt
 replace lc := kc.lt
 replace kr := kr.below hvc kr.lt
 replace lr := kr.lt
 replace hb := hb.trans (hvc.mono hsz)
 replace hsz : g ≤ vc.heap.size := Nat.le_trans hsz hvc.size
 clear hvc
 unfold clv clc
 go_upto_region 8 with (fail)
 replace kc := kc.alloc (.cells #[.int .i64 a, .int .i64 r, .int .i64 sq, .string t, .bool true, .slice A1 n1 c1, .bool false, .slice A3 n3 c3] 92)
 replace kr := kr.alloc (.cells #[.int .i64 a, .int .i64 r, .int .i64 sq, .string t, .bool true, .slice A1 n1 c1, .bool false, .slice A3 n3 c3] 92)
 have ko := Blk.new vc 92 #[.int .i64 a, .int .i64 r, .int .i64 sq, .string t, .bool true, .slice A1 n1 c1, .bool false, .slice A3 n3 c3]
 replace oS := Lib.hid (World.ownsRow.alloc oS.out (.cells #[.int .i64 a, .int .i64 r, .int .i64 sq, .string t, .bool true, .slice A1 n1 c1, .bool false, .slice A3 n3 c3] 92))
 replace oH := Lib.hid (World.ownsRow.alloc oH.out (.cells #[.int .i64 a, .int .i64 r, .int .i64 sq, .string t, .bool true, .slice A1 n1 c1, .bool false, .slice A3 n3 c3] 92))
 replace hb := hb.alloc hsz (.cells #[.int .i64 a, .int .i64 r, .int .i64 sq, .string t, .bool true, .slice A1 n1 c1, .bool false, .slice A3 n3 c3] 92)
 have hs4 : (vc.alloc (.cells #[.int .i64 a, .int .i64 r, .int .i64 sq, .string t, .bool true, .slice A1 n1 c1, .bool false, .slice A3 n3 c3] 92)).heap.size = vc.heap.size + 1 := by simp
 generalize (vc.alloc (.cells #[.int .i64 a, .int .i64 r, .int .i64 sq, .string t, .bool true, .slice A1 n1 c1, .bool false, .slice A3 n3 c3] 92)) = U4 at *
 obtain ⟨b, heb⟩ : ∃ b, vc.heap.size = b := ⟨_, rfl⟩
 rw [heb] at ko ⊢
 have nb4 : g ≤ b := by omega
 replace hsz : g ≤ U4.heap.size := by omega
 have nq4_c : g < b := by omega
 have nq4_r : g + 1 < b := by omega
 have lo := ko.lt
 have co_3 := ko.cell 3
 have fo_3 := ko.frozen 3
 go_upto_region 10 with (fail)
 clear co_3 fo_3
 have ho5 : Only U4 (U4.setCell ⟨b, 3, none⟩ (.string (doS d t))) (fun k => k = b) := (Only.setCell (S := fun k => k = b) U4 ⟨b, 3, none⟩ (.string (doS d t)) (by simp))
 replace oS := Lib.hid (own_only oS.out ho5 (fun k hk h_ => by rcases h_ with rfl <;> first | exact own_blk_ne oS.out ko (by decide) hk))
 replace oH := Lib.hid (own_only oH.out ho5 (fun k hk h_ => by rcases h_ with rfl <;> first | exact own_blk_ne oH.out ko (by decide) hk))
 replace kc : Blk (U4.setCell ⟨b, 3, none⟩ (.string (doS d t))) g 92 #[.int .i64 a, .int .i64 r, .int .i64 sq, .string t, .bool true, .slice A n cp, .bool false, .slice A' n' cp'] := (kc.far (p := ⟨b, 3, none⟩) (by simp only; omega) (.string (doS d t)))
 replace kr : Blk (U4.setCell ⟨b, 3, none⟩ (.string (doS d t))) (g + 1) 92 #[.int .i64 0, .int .i64 0, .int .i64 0, .string ⟨#[]⟩, .bool false, .slice none 0 0, .bool false, .slice none 0 0] := (kr.far (p := ⟨b, 3, none⟩) (by simp only; omega) (.string (doS d t)))
 replace ko : Blk (U4.setCell ⟨b, 3, none⟩ (.string (doS d t))) b 92 #[.int .i64 a, .int .i64 r, .int .i64 sq, .string (doS d t), .bool true, .slice A1 n1 c1, .bool false, .slice A3 n3 c3] := (ko.set_ 3 (.string (doS d t)))
 replace hb : Below g w (U4.setCell ⟨b, 3, none⟩ (.string (doS d t))) := (hb.setCell (p := ⟨b, 3, none⟩) (by simp only; omega) (.string (doS d t)))
 have hs5 : (U4.setCell ⟨b, 3, none⟩ (.string (doS d t))).heap.size = U4.heap.size := by simp
 generalize (U4.setCell ⟨b, 3, none⟩ (.string (doS d t))) = U5 at *
 replace hsz : g ≤ U5.heap.size := by omega
 replace lc := kc.lt
 replace lr := kr.lt
 replace lo := ko.lt
 have cc_4 := kc.cell 4
 have cc_6 := kc.cell 6
 go_upto_region 16 with (fail)
 clear cc_4 cc_6
 go_upto_region 17 with (first | (at_builtin; go_loud (refine wpList_app_partsC _ rfl (.const (.slice none 0 0)) (.tmp 59) rfl U5.heap.size _ [] rfl (OwnP.nil _ _) A2 n2 c2 _ d rfl (Hd.out.below hb) (by simp; omega) (Nat.le_refl _) ?_; intro vd wd qd hvd; rw [List.nil_append] at qd; obtain ⟨A5, c5, rfl⟩ := qd.form_ (n := n2) Hd.out.1.symm; have ko_ := ko.below hvd ko.lt; have e4 := ko_.cell 6; have e5 := ko_.cell 7; have f4 := ko_.frozen 6; have f5 := ko_.frozen 7; have lo_ := ko_.lt)))
 clear e4 e5 f4 f5 ko_ lo_
 replace kc := kc.below hvd kc.lt
 replace lc := kc.lt
 replace kr := kr.below hvd kr.lt
 replace lr := kr.lt
 replace ko := ko.below hvd ko.lt
 replace lo := ko.lt
 replace oS := Lib.hid (own_below oS.out hvd)
 replace oH := Lib.hid (own_below oH.out hvd)
 replace hb := hb.trans (hvd.mono hsz)
 replace hsz : g ≤ wd.heap.size := Nat.le_trans hsz hvd.size
 clear hvd
 have oD := Lib.hid qd
 clear qd
 have ho6 : Only wd ((wd.setCell ⟨b, 6, none⟩ (.bool true)).setCell ⟨b, 7, none⟩ (.slice A5 n2 c5)) (fun k => k = b) := ((Only.setCell (S := fun k => k = b) wd ⟨b, 6, none⟩ (.bool true) (by simp)).trans (Only.setCell (S := fun k => k = b) (wd.setCell ⟨b, 6, none⟩ (.bool true)) ⟨b, 7, none⟩ (.slice A5 n2 c5) (by simp)))
 replace oS := Lib.hid (own_only oS.out ho6 (fun k hk h_ => by rcases h_ with rfl <;> first | exact own_blk_ne oS.out ko (by decide) hk))
 replace oH := Lib.hid (own_only oH.out ho6 (fun k hk h_ => by rcases h_ with rfl <;> first | exact own_blk_ne oH.out ko (by decide) hk))
 replace oD := Lib.hid (own_only oD.out ho6 (fun k hk h_ => by rcases h_ with rfl <;> first | exact own_blk_ne oD.out ko (by decide) hk))
 replace kc : Blk ((wd.setCell ⟨b, 6, none⟩ (.bool true)).setCell ⟨b, 7, none⟩ (.slice A5 n2 c5)) g 92 #[.int .i64 a, .int .i64 r, .int .i64 sq, .string t, .bool true, .slice A n cp, .bool false, .slice A' n' cp'] := ((kc.far (p := ⟨b, 6, none⟩) (by simp only; omega) (.bool true)).far (p := ⟨b, 7, none⟩) (by simp only; omega) (.slice A5 n2 c5))
 replace kr : Blk ((wd.setCell ⟨b, 6, none⟩ (.bool true)).setCell ⟨b, 7, none⟩ (.slice A5 n2 c5)) (g + 1) 92 #[.int .i64 0, .int .i64 0, .int .i64 0, .string ⟨#[]⟩, .bool false, .slice none 0 0, .bool false, .slice none 0 0] := ((kr.far (p := ⟨b, 6, none⟩) (by simp only; omega) (.bool true)).far (p := ⟨b, 7, none⟩) (by simp only; omega) (.slice A5 n2 c5))
 replace ko : Blk ((wd.setCell ⟨b, 6, none⟩ (.bool true)).setCell ⟨b, 7, none⟩ (.slice A5 n2 c5)) b 92 #[.int .i64 a, .int .i64 r, .int .i64 sq, .string (doS d t), .bool true, .slice A1 n1 c1, .bool true, .slice A5 n2 c5] := ((ko.set_ 6 (.bool true)).set_ 7 (.slice A5 n2 c5))
 replace hb : Below g w ((wd.setCell ⟨b, 6, none⟩ (.bool true)).setCell ⟨b, 7, none⟩ (.slice A5 n2 c5)) := ((hb.setCell (p := ⟨b, 6, none⟩) (by simp only; omega) (.bool true)).setCell (p := ⟨b, 7, none⟩) (by simp only; omega) (.slice A5 n2 c5))
 have hs6 : ((wd.setCell ⟨b, 6, none⟩ (.bool true)).setCell ⟨b, 7, none⟩ (.slice A5 n2 c5)).heap.size = wd.heap.size := by simp
 generalize ((wd.setCell ⟨b, 6, none⟩ (.bool true)).setCell ⟨b, 7, none⟩ (.slice A5 n2 c5)) = U6 at *
 replace hsz : g ≤ U6.heap.size := by omega
 replace lc := kc.lt
 replace lr := kr.lt
 replace lo := ko.lt
 go_wp2_with (first | (refine wpList_load_blk rfl _ (.tmp 9) rfl b rfl _ (client_row ko rfl) ?_) | (refine wpList_store_blk rfl _ (.tmp 4) (.tmp 63) rfl (g + 1) _ rfl rfl _ _ kr client_info rfl (by simp [Value.oneCell']) ?_))
 have kz := kr.row #[.int .i64 a, .int .i64 r, .int .i64 sq, .string (doS d t), .bool true, .slice A1 n1 c1, .bool true, .slice A5 n2 c5]
 have hz := below_setRow hb (g + 1) #[.int .i64 a, .int .i64 r, .int .i64 sq, .string (doS d t), .bool true, .slice A1 n1 c1, .bool true, .slice A5 n2 c5] (by omega)
 have hzo := Only.setRow U6 (g + 1) #[.int .i64 a, .int .i64 r, .int .i64 sq, .string (doS d t), .bool true, .slice A1 n1 c1, .bool true, .slice A5 n2 c5]
 have zS := own_only oS.out hzo (fun k hk h_ => by rcases h_ with rfl; exact own_blk_ne oS.out kr (by decide) hk)
 have zH := own_only oH.out hzo (fun k hk h_ => by rcases h_ with rfl; exact own_blk_ne oH.out kr (by decide) hk)
 have zD := own_only oD.out hzo (fun k hk h_ => by rcases h_ with rfl; exact own_blk_ne oD.out kr (by decide) hk)
 refine row_end2 rfl rfl rfl rfl (client_row kz rfl) ?_
 exact ⟨(A1, n1, c1), (A5, n2, c5), rfl, own_base zS (by omega), own_base zD (by omega), hbase ▸ hz⟩
theorem cedit_W (a r sq : Int) (t : ByteArray) (f q : Bool) (S H : List Pt) (A A' : Option Addr) (n n' cp cp' : Nat) (d : List Pt) (A2 : Option Addr) (n2 c2 : Nat) (w : World) (hk : CkOk ⟨a, r, sq, t, f, S, q, H⟩)
 (hS : RdP w w.heap.size A n cp S) (hH : RdP w w.heap.size A' n' cp' H) (hd : RdP w w.heap.size A2 n2 c2 d) (hn : n ≤ 4000000) (hn' : n' ≤ 4000000) (hn2 : n2 ≤ 4000000) (he : doE d t = 0) (hf : f = true) (hq : q = true) :
 Calls Try.prog 72 #[.agg #[.int .i64 a, .int .i64 r, .int .i64 sq, .string t, .bool f, .slice A n cp, .bool q, .slice A' n' cp'], .slice A2 n2 c2] w fun e w' => ∃ s1 h1 : Sl, e = .returned (.tuple #[clv ⟨a, r, sq, doS d t, true, S, true, compL H d⟩ s1 h1, .int .i64 0]) ∧ OwnSl w' w.heap.size s1 S ∧ OwnSl w' w.heap.size h1 (compL H d) ∧ Below w.heap.size w w' := by
 subst hf
 subst hq
 have hs5 := hk.text
 have Hk := Lib.hid hk
 have HS := Lib.hid hS
 have HH := Lib.hid hH
 have Hd := Lib.hid hd
 have He := Lib.hid he
 have hsq0 := hk.seq0
 have hsq1 := hk.seq1
 simp only at hs5 hsq0 hsq1
 clear hk hS hH hd he
 have hb0 : Below w.heap.size w w := Below.refl _ _
 have hb1 := hb0.alloc hb0.size (.cells #[.int .i64 a, .int .i64 r, .int .i64 sq, .string t, .bool true, .slice A n cp, .bool true, .slice A' n' cp'] 92)
 have kc := Blk.new w 92 #[.int .i64 a, .int .i64 r, .int .i64 sq, .string t, .bool true, .slice A n cp, .bool true, .slice A' n' cp']
 have hb2 := hb1.alloc hb1.size (.cells #[.int .i64 0, .int .i64 0, .int .i64 0, .string ⟨#[]⟩, .bool false, .slice none 0 0, .bool false, .slice none 0 0] 92)
 replace kc := kc.alloc (.cells #[.int .i64 0, .int .i64 0, .int .i64 0, .string ⟨#[]⟩, .bool false, .slice none 0 0, .bool false, .slice none 0 0] 92)
 have kr := Blk.new (w.alloc (.cells #[.int .i64 a, .int .i64 r, .int .i64 sq, .string t, .bool true, .slice A n cp, .bool true, .slice A' n' cp'] 92)) 92 #[.int .i64 0, .int .i64 0, .int .i64 0, .string ⟨#[]⟩, .bool false, .slice none 0 0, .bool false, .slice none 0 0]
 clear hb0 hb1
 have hb := hb2
 clear hb2
 simp only [World.size_alloc] at kc kr
 go_enter Try.func72, Try.ntmps72
 go_upto_region 1 with (fail)
 generalize ((w.alloc (.cells #[.int .i64 a, .int .i64 r, .int .i64 sq, .string t, .bool true, .slice A n cp, .bool true, .slice A' n' cp'] 92)).alloc (.cells #[.int .i64 0, .int .i64 0, .int .i64 0, .string ⟨#[]⟩, .bool false, .slice none 0 0, .bool false, .slice none 0 0] 92)) = W0 at *
 obtain ⟨g, hbase⟩ : ∃ g, w.heap.size = g := ⟨_, rfl⟩
 rw [hbase] at hb kc kr ⊢
 have hsz : g ≤ W0.heap.size := by have := hb.size; omega
 have lc := kc.lt
 have lr := kr.lt
 have HS := Lib.hid (hbase ▸ HS.out)
 have HH := Lib.hid (hbase ▸ HH.out)
 have Hd := Lib.hid (hbase ▸ Hd.out)
 go_wp2_with (first | (refine wpList_load_blk rfl _ (.tmp 2) rfl g rfl _ (client_row kc rfl) ?_))
 refine (ccheck_good ⟨a, r, sq, t, true, S, true, H⟩ (A, n, cp) (A', n', cp') W0 Hk.out ((HS.out.below hb).more hsz) ((HH.out.below hb).more hsz)).mono ?_
 rintro e v1 ⟨rfl, hv1⟩
 replace kc := kc.below hv1 kc.lt
 replace lc := kc.lt
 replace kr := kr.below hv1 kr.lt
 replace lr := kr.lt
 replace hb := hb.trans (hv1.mono hsz)
 replace hsz : g ≤ v1.heap.size := Nat.le_trans hsz hv1.size
 clear hv1
 go_upto_region 4 with (fail)
 have cc_3 := kc.cell 3
 go_wp2_with fail
 have hc := do_any d A2 n2 c2 g t v1 (Hd.out.below hb) hsz (by omega)
 rw [He.out] at hc
 clear cc_3
 refine (hc).mono ?_
 rintro e v2 ⟨rfl, hv2⟩
 replace kc := kc.below hv2 kc.lt
 replace lc := kc.lt
 replace kr := kr.below hv2 kr.lt
 replace lr := kr.lt
 replace hb := hb.trans (hv2.mono hsz)
 replace hsz : g ≤ v2.heap.size := Nat.le_trans hsz hv2.size
 clear hv2
 clear hc
 go_upto_region 7 with (fail)
 go_wp2_with (first | (refine wpList_load_blk rfl _ (.tmp 2) rfl g rfl _ (client_row kc rfl) ?_))
 refine (ccopied_any ⟨a, r, sq, t, true, S, true, H⟩ (A, n, cp) (A', n', cp') v2 ((HS.out.below hb).more hsz) ((HH.out.below hb).more hsz) hn hn').mono ?_
 rintro e vc ⟨A1, n1, c1, A3, n3, c3, rfl, hp1, hp2, -, hvc⟩
 have oS := Lib.hid hp1
 have oH := Lib.hid hp2
 clear hp1 hp2
 obtain ⟨Z, hZ⟩ : ∃ Z, v2.heap.size = Z := ⟨_, rfl⟩
 rw [hZ] at oS oH
 have hgZ : g + 1 < Z := by omega
 replace kc := kc.below hvc kc.lt
 replace lc := kc.lt
 replace kr := kr.below hvc kr.lt
 replace lr := kr.lt
 replace hb := hb.trans (hvc.mono hsz)
 replace hsz : g ≤ vc.heap.size := Nat.le_trans hsz hvc.size
 clear hvc
 unfold clv clc
 go_upto_region 8 with (fail)
 replace kc := kc.alloc (.cells #[.int .i64 a, .int .i64 r, .int .i64 sq, .string t, .bool true, .slice A1 n1 c1, .bool true, .slice A3 n3 c3] 92)
 replace kr := kr.alloc (.cells #[.int .i64 a, .int .i64 r, .int .i64 sq, .string t, .bool true, .slice A1 n1 c1, .bool true, .slice A3 n3 c3] 92)
 have ko := Blk.new vc 92 #[.int .i64 a, .int .i64 r, .int .i64 sq, .string t, .bool true, .slice A1 n1 c1, .bool true, .slice A3 n3 c3]
 replace oS := Lib.hid (World.ownsRow.alloc oS.out (.cells #[.int .i64 a, .int .i64 r, .int .i64 sq, .string t, .bool true, .slice A1 n1 c1, .bool true, .slice A3 n3 c3] 92))
 replace oH := Lib.hid (World.ownsRow.alloc oH.out (.cells #[.int .i64 a, .int .i64 r, .int .i64 sq, .string t, .bool true, .slice A1 n1 c1, .bool true, .slice A3 n3 c3] 92))
 replace hb := hb.alloc hsz (.cells #[.int .i64 a, .int .i64 r, .int .i64 sq, .string t, .bool true, .slice A1 n1 c1, .bool true, .slice A3 n3 c3] 92)
 have hs4 : (vc.alloc (.cells #[.int .i64 a, .int .i64 r, .int .i64 sq, .string t, .bool true, .slice A1 n1 c1, .bool true, .slice A3 n3 c3] 92)).heap.size = vc.heap.size + 1 := by simp
 generalize (vc.alloc (.cells #[.int .i64 a, .int .i64 r, .int .i64 sq, .string t, .bool true, .slice A1 n1 c1, .bool true, .slice A3 n3 c3] 92)) = U4 at *
 obtain ⟨b, heb⟩ : ∃ b, vc.heap.size = b := ⟨_, rfl⟩
 rw [heb] at ko ⊢
 have nb4 : g ≤ b := by omega
 replace hsz : g ≤ U4.heap.size := by omega
 have nq4_c : g < b := by omega
 have nq4_r : g + 1 < b := by omega
 have lo := ko.lt
 have co_3 := ko.cell 3
 have fo_3 := ko.frozen 3
 go_upto_region 10 with (fail)
 clear co_3 fo_3
 have ho5 : Only U4 (U4.setCell ⟨b, 3, none⟩ (.string (doS d t))) (fun k => k = b) := (Only.setCell (S := fun k => k = b) U4 ⟨b, 3, none⟩ (.string (doS d t)) (by simp))
 replace oS := Lib.hid (own_only oS.out ho5 (fun k hk h_ => by rcases h_ with rfl <;> first | exact own_blk_ne oS.out ko (by decide) hk))
 replace oH := Lib.hid (own_only oH.out ho5 (fun k hk h_ => by rcases h_ with rfl <;> first | exact own_blk_ne oH.out ko (by decide) hk))
 replace kc : Blk (U4.setCell ⟨b, 3, none⟩ (.string (doS d t))) g 92 #[.int .i64 a, .int .i64 r, .int .i64 sq, .string t, .bool true, .slice A n cp, .bool true, .slice A' n' cp'] := (kc.far (p := ⟨b, 3, none⟩) (by simp only; omega) (.string (doS d t)))
 replace kr : Blk (U4.setCell ⟨b, 3, none⟩ (.string (doS d t))) (g + 1) 92 #[.int .i64 0, .int .i64 0, .int .i64 0, .string ⟨#[]⟩, .bool false, .slice none 0 0, .bool false, .slice none 0 0] := (kr.far (p := ⟨b, 3, none⟩) (by simp only; omega) (.string (doS d t)))
 replace ko : Blk (U4.setCell ⟨b, 3, none⟩ (.string (doS d t))) b 92 #[.int .i64 a, .int .i64 r, .int .i64 sq, .string (doS d t), .bool true, .slice A1 n1 c1, .bool true, .slice A3 n3 c3] := (ko.set_ 3 (.string (doS d t)))
 replace hb : Below g w (U4.setCell ⟨b, 3, none⟩ (.string (doS d t))) := (hb.setCell (p := ⟨b, 3, none⟩) (by simp only; omega) (.string (doS d t)))
 have hs5 : (U4.setCell ⟨b, 3, none⟩ (.string (doS d t))).heap.size = U4.heap.size := by simp
 generalize (U4.setCell ⟨b, 3, none⟩ (.string (doS d t))) = U5 at *
 replace hsz : g ≤ U5.heap.size := by omega
 replace lc := kc.lt
 replace lr := kr.lt
 replace lo := ko.lt
 have cc_4 := kc.cell 4
 have cc_6 := kc.cell 6
 have cc_7 := kc.cell 7
 go_upto_region 9 with (fail)
 go_wp2_with fail
 obtain ⟨N, hN⟩ : ∃ N, (compL H d).length = N := ⟨_, rfl⟩
 have HN := Lib.hid hN
 clear hN cc_4 cc_6 cc_7
 refine (comp_any H d A' A2 n' n2 cp' c2 U5 ((HH.out.below hb).more hsz) ((Hd.out.below hb).more hsz)).mono ?_
 rintro e wd ⟨vd, rfl, qd, hvd⟩
 obtain ⟨A5, c5, rfl⟩ := qd.form_ (n := N) HN.out
 clear HN
 replace kc := kc.below hvd kc.lt
 replace lc := kc.lt
 replace kr := kr.below hvd kr.lt
 replace lr := kr.lt
 replace ko := ko.below hvd ko.lt
 replace lo := ko.lt
 replace oS := Lib.hid (own_below oS.out hvd)
 replace oH := Lib.hid (own_below oH.out hvd)
 replace hb := hb.trans (hvd.mono hsz)
 replace hsz : g ≤ wd.heap.size := Nat.le_trans hsz hvd.size
 clear hvd
 have oD := Lib.hid qd
 clear qd
 have co_7 := ko.cell 7
 have fo_7 := ko.frozen 7
 go_upto_region 17 with (fail)
 clear co_7 fo_7
 have ho6 : Only wd (wd.setCell ⟨b, 7, none⟩ (.slice A5 N c5)) (fun k => k = b) := (Only.setCell (S := fun k => k = b) wd ⟨b, 7, none⟩ (.slice A5 N c5) (by simp))
 replace oS := Lib.hid (own_only oS.out ho6 (fun k hk h_ => by rcases h_ with rfl <;> first | exact own_blk_ne oS.out ko (by decide) hk))
 replace oH := Lib.hid (own_only oH.out ho6 (fun k hk h_ => by rcases h_ with rfl <;> first | exact own_blk_ne oH.out ko (by decide) hk))
 replace oD := Lib.hid (own_only oD.out ho6 (fun k hk h_ => by rcases h_ with rfl <;> first | exact own_blk_ne oD.out ko (by decide) hk))
 replace kc : Blk (wd.setCell ⟨b, 7, none⟩ (.slice A5 N c5)) g 92 #[.int .i64 a, .int .i64 r, .int .i64 sq, .string t, .bool true, .slice A n cp, .bool true, .slice A' n' cp'] := (kc.far (p := ⟨b, 7, none⟩) (by simp only; omega) (.slice A5 N c5))
 replace kr : Blk (wd.setCell ⟨b, 7, none⟩ (.slice A5 N c5)) (g + 1) 92 #[.int .i64 0, .int .i64 0, .int .i64 0, .string ⟨#[]⟩, .bool false, .slice none 0 0, .bool false, .slice none 0 0] := (kr.far (p := ⟨b, 7, none⟩) (by simp only; omega) (.slice A5 N c5))
 replace ko : Blk (wd.setCell ⟨b, 7, none⟩ (.slice A5 N c5)) b 92 #[.int .i64 a, .int .i64 r, .int .i64 sq, .string (doS d t), .bool true, .slice A1 n1 c1, .bool true, .slice A5 N c5] := (ko.set_ 7 (.slice A5 N c5))
 replace hb : Below g w (wd.setCell ⟨b, 7, none⟩ (.slice A5 N c5)) := (hb.setCell (p := ⟨b, 7, none⟩) (by simp only; omega) (.slice A5 N c5))
 have hs6 : (wd.setCell ⟨b, 7, none⟩ (.slice A5 N c5)).heap.size = wd.heap.size := by simp
 generalize (wd.setCell ⟨b, 7, none⟩ (.slice A5 N c5)) = U6 at *
 replace hsz : g ≤ U6.heap.size := by omega
 replace lc := kc.lt
 replace lr := kr.lt
 replace lo := ko.lt
 go_wp2_with (first | (refine wpList_load_blk rfl _ (.tmp 9) rfl b rfl _ (client_row ko rfl) ?_) | (refine wpList_store_blk rfl _ (.tmp 4) (.tmp 63) rfl (g + 1) _ rfl rfl _ _ kr client_info rfl (by simp [Value.oneCell']) ?_))
 have kz := kr.row #[.int .i64 a, .int .i64 r, .int .i64 sq, .string (doS d t), .bool true, .slice A1 n1 c1, .bool true, .slice A5 N c5]
 have hz := below_setRow hb (g + 1) #[.int .i64 a, .int .i64 r, .int .i64 sq, .string (doS d t), .bool true, .slice A1 n1 c1, .bool true, .slice A5 N c5] (by omega)
 have hzo := Only.setRow U6 (g + 1) #[.int .i64 a, .int .i64 r, .int .i64 sq, .string (doS d t), .bool true, .slice A1 n1 c1, .bool true, .slice A5 N c5]
 have zS := own_only oS.out hzo (fun k hk h_ => by rcases h_ with rfl; exact own_blk_ne oS.out kr (by decide) hk)
 have zH := own_only oH.out hzo (fun k hk h_ => by rcases h_ with rfl; exact own_blk_ne oH.out kr (by decide) hk)
 have zD := own_only oD.out hzo (fun k hk h_ => by rcases h_ with rfl; exact own_blk_ne oD.out kr (by decide) hk)
 refine row_end2 rfl rfl rfl rfl (client_row kz rfl) ?_
 exact ⟨(A1, n1, c1), (A5, N, c5), rfl, own_base zS (by omega), own_base zD (by omega), hbase ▸ hz⟩
theorem cedit_good (c : Cl) (s h : Sl) (d : List Pt) (A2 : Option Addr) (n2 c2 : Nat) (w : World) (hk : CkOk c) (hS : RdP w w.heap.size s.1 s.2.1 s.2.2 c.sent) (hH : RdP w w.heap.size h.1 h.2.1 h.2.2 c.held) (hd : RdP w w.heap.size A2 n2 c2 d)
 (hn : s.2.1 ≤ 4000000) (hn' : h.2.1 ≤ 4000000) (he : doE d c.text = 0) (hq : c.fly = false → c.seq ≠ 2147483647) :
 Calls Try.prog 72 #[clv c s h, .slice A2 n2 c2] w fun e w' => ∃ s1 h1 : Sl, e = .returned (.tuple #[clv (edL c d) s1 h1, .int .i64 0]) ∧ OwnSl w' w.heap.size s1 (edL c d).sent ∧ OwnSl w' w.heap.size h1 (edL c d).held ∧ Below w.heap.size w w' := by
 obtain ⟨a, r, sq, t, f, S, q, H⟩ := c
 obtain ⟨A, n, cp⟩ := s
 obtain ⟨A', n', cp'⟩ := h
 have hn2 : n2 ≤ 4000000 := by
  have h1 := (chk_parts (do_chk he).1).1
  have h2 := hd.1
  omega
 cases f with
 | false => exact cedit_F a r sq t false q S H A A' n n' cp cp' d A2 n2 c2 w hk hS hH hd hn hn' hn2 he rfl (hq rfl)
 | true =>
   cases q with
   | false => exact cedit_T a r sq t true false S H A A' n n' cp cp' d A2 n2 c2 w hk hS hH hd hn hn' hn2 he rfl rfl
   | true => exact cedit_W a r sq t true true S H A A' n n' cp cp' d A2 n2 c2 w hk hS hH hd hn hn' hn2 he rfl rfl
end Go.Proofs.Ytokngfinnieccaa
