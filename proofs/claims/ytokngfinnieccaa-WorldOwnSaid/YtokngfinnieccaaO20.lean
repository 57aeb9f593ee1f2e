/- Contract of client.In. -/
import Derived.Test.YtokngfinnieccaaO18
import Derived.Test.YtokngfinnieccaaO19
namespace Go.Proofs.Ytokngfinnieccaa
open Go.ChangeShapes Go.WideShapes Go.RowKit
set_option linter.unusedVariables false
set_option linter.unusedSimpArgs false
set_option maxRecDepth 100000
set_option maxHeartbeats 4000000
def zeroCl : Cl := ⟨0, 0, 0, ⟨#[]⟩, false, [], false, []⟩
def inO (c : Cl) : Cl := ⟨c.who, c.rev + 1, if c.wait then c.seq + 1 else c.seq, c.text, c.wait, c.held, false, []⟩
def in1E (c : Cl) (d : List Pt) : Int := if c.fly then meetE d c.sent else 0
def in1D (c : Cl) (d : List Pt) : List Pt := if c.fly then meetC d c.sent else d
def in1S (c : Cl) (d : List Pt) : List Pt := if c.fly then meetD d c.sent else c.sent
def in2E (c : Cl) (d : List Pt) : Int := if c.wait then meetE (in1D c d) c.held else 0
def in2D (c : Cl) (d : List Pt) : List Pt := if c.wait then meetC (in1D c d) c.held else in1D c d
def in2H (c : Cl) (d : List Pt) : List Pt := if c.wait then meetD (in1D c d) c.held else c.held
def inE (c : Cl) (d : List Pt) : Int := if chk d ≠ 0 then chk d else if in1E c d ≠ 0 then in1E c d else if in2E c d ≠ 0 then in2E c d else doE (in2D c d) c.text
def inL (c : Cl) (d : List Pt) : Cl := ⟨c.who, c.rev + 1, c.seq, doS (in2D c d) c.text, c.fly, in1S c d, c.wait, in2H c d⟩
def inR (c : Cl) (d : List Pt) : Cl := if inE c d = 0 then inL c d else zeroCl
theorem rdS_ {w : World} {B : Nat} {A : Option Addr} {n c : Nat} {l : List Pt} (h : OwnP w B (.slice A n c) l) (ht : ∀ p ∈ l, p.2.2.size ≤ 140737488351232) : RdP w w.heap.size A n c l := by
 obtain ⟨A', c', e, hr⟩ := h.rd ht
 injection e with e1 e2 e3
 subst e1; subst e2; subst e3
 exact hr
theorem cin_own_false (a r sq : Int) (t : ByteArray) (f q : Bool) (S H : List Pt) (A A' : Option Addr) (n n' cp cp' : Nat) (mw ms : Int) (d : List Pt) (A2 : Option Addr) (n2 c2 : Nat) (w : World) (hk : CkOk ⟨a, r, sq, t, f, S, q, H⟩)
 (hS : RdP w w.heap.size A n cp S) (hH : RdP w w.heap.size A' n' cp' H) (hd : RdP w w.heap.size A2 n2 c2 d) (hn : n ≤ 4000000) (hn' : n' ≤ 4000000) (hr : r ≠ 2147483647) (he : chk d = 0) (hf : f = true) (hq : q = false) (h1 : mw = a) (h2 : ms = sq) :
 Calls Try.prog 74 #[.agg #[.int .i64 a, .int .i64 r, .int .i64 sq, .string t, .bool f, .slice A n cp, .bool q, .slice A' n' cp'], .agg #[.int .i64 r, .int .i64 mw, .int .i64 ms, .slice A2 n2 c2]] w fun e w' => ∃ s1 h1 : Sl, e = .returned (.tuple #[clv ⟨a, r + 1, sq, t, false, H, false, []⟩ s1 h1, .int .i64 0]) ∧ OwnSl w' w.heap.size s1 H ∧ OwnSl w' w.heap.size h1 [] ∧ Below w.heap.size w w' := by
 subst hf
 subst hq
 subst h1
 subst h2
 have He := Lib.hid he
 clear he
 have hs5 := hk.text
 have Hk := Lib.hid hk
 have HS := Lib.hid hS
 have HH := Lib.hid hH
 have Hd := Lib.hid hd
 have hsq0 := hk.seq0
 have hsq1 := hk.seq1
 have hr0 := hk.rev0
 have hr1 := hk.rev1
 simp only at hs5 hsq0 hsq1 hr0 hr1
 have hrf : (r == 2147483647) = false := by simpa using hr
 clear hk hS hH hd hr
 have hb0 : Below w.heap.size w w := Below.refl _ _
 have hb1 := hb0.alloc hb0.size (.cells #[.int .i64 mw, .int .i64 r, .int .i64 ms, .string t, .bool true, .slice A n cp, .bool false, .slice A' n' cp'] 92)
 have kc := Blk.new w 92 #[.int .i64 mw, .int .i64 r, .int .i64 ms, .string t, .bool true, .slice A n cp, .bool false, .slice A' n' cp']
 have hb2 := hb1.alloc hb1.size (.cells #[.int .i64 r, .int .i64 mw, .int .i64 ms, .slice A2 n2 c2] 82)
 replace kc := kc.alloc (.cells #[.int .i64 r, .int .i64 mw, .int .i64 ms, .slice A2 n2 c2] 82)
 have km := Blk.new (w.alloc (.cells #[.int .i64 mw, .int .i64 r, .int .i64 ms, .string t, .bool true, .slice A n cp, .bool false, .slice A' n' cp'] 92)) 82 #[.int .i64 r, .int .i64 mw, .int .i64 ms, .slice A2 n2 c2]
 have hb3 := hb2.alloc hb2.size (.cells #[.int .i64 0, .int .i64 0, .int .i64 0, .string ⟨#[]⟩, .bool false, .slice none 0 0, .bool false, .slice none 0 0] 92)
 replace kc := kc.alloc (.cells #[.int .i64 0, .int .i64 0, .int .i64 0, .string ⟨#[]⟩, .bool false, .slice none 0 0, .bool false, .slice none 0 0] 92)
 replace km := km.alloc (.cells #[.int .i64 0, .int .i64 0, .int .i64 0, .string ⟨#[]⟩, .bool false, .slice none 0 0, .bool false, .slice none 0 0] 92)
 have kr := Blk.new ((w.alloc (.cells #[.int .i64 mw, .int .i64 r, .int .i64 ms, .string t, .bool true, .slice A n cp, .bool false, .slice A' n' cp'] 92)).alloc (.cells #[.int .i64 r, .int .i64 mw, .int .i64 ms, .slice A2 n2 c2] 82)) 92 #[.int .i64 0, .int .i64 0, .int .i64 0, .string ⟨#[]⟩, .bool false, .slice none 0 0, .bool false, .slice none 0 0]
 clear hb0 hb1 hb2
 have hb := hb3
 clear hb3
 simp only [World.size_alloc] at kc km kr
 go_enter Try.func74, Try.ntmps74
 go_upto_region 1 with (fail)
 generalize (((w.alloc (.cells #[.int .i64 mw, .int .i64 r, .int .i64 ms, .string t, .bool true, .slice A n cp, .bool false, .slice A' n' cp'] 92)).alloc (.cells #[.int .i64 r, .int .i64 mw, .int .i64 ms, .slice A2 n2 c2] 82)).alloc (.cells #[.int .i64 0, .int .i64 0, .int .i64 0, .string ⟨#[]⟩, .bool false, .slice none 0 0, .bool false, .slice none 0 0] 92)) = W0 at *
 obtain ⟨g, hbase⟩ : ∃ g, w.heap.size = g := ⟨_, rfl⟩
 rw [hbase] at hb kc km kr ⊢
 have hsz : g ≤ W0.heap.size := by have := hb.size; omega
 have lc := kc.lt
 have lm := km.lt
 have lr := kr.lt
 have HS := Lib.hid (hbase ▸ HS.out)
 have HH := Lib.hid (hbase ▸ HH.out)
 have Hd := Lib.hid (hbase ▸ Hd.out)
 go_wp2_with (first | (refine wpList_load_blk rfl _ (.tmp 2) rfl g rfl _ (client_row kc rfl) ?_))
 refine (ccheck_good ⟨mw, r, ms, t, true, S, false, H⟩ (A, n, cp) (A', n', cp') W0 Hk.out ((HS.out.below hb).more hsz) ((HH.out.below hb).more hsz)).mono ?_
 rintro e v1 ⟨rfl, hv1⟩
 replace kc := kc.below hv1 kc.lt
 replace lc := kc.lt
 replace km := km.below hv1 km.lt
 replace lm := km.lt
 replace kr := kr.below hv1 kr.lt
 replace lr := kr.lt
 replace hb := hb.trans (hv1.mono hsz)
 replace hsz : g ≤ v1.heap.size := Nat.le_trans hsz hv1.size
 clear hv1
 go_upto_region 4 with (fail)
 have cm_3 := km.cell 3
 go_wp2_with fail
 have hc := chk_any d A2 n2 c2 g v1 (Hd.out.below hb) hsz
 clear cm_3
 rw [He.out] at hc
 refine (hc).mono ?_
 rintro e v2 ⟨rfl, hv2⟩
 replace kc := kc.below hv2 kc.lt
 replace lc := kc.lt
 replace km := km.below hv2 km.lt
 replace lm := km.lt
 replace kr := kr.below hv2 kr.lt
 replace lr := kr.lt
 replace hb := hb.trans (hv2.mono hsz)
 replace hsz : g ≤ v2.heap.size := Nat.le_trans hsz hv2.size
 clear hv2
 clear hc
 have cm_0 := km.cell 0
 have cc_1 := kc.cell 1
 go_upto_region 11 with (fail)
 clear cm_0 cc_1
 go_wp2_with (first | (refine wpList_load_blk rfl _ (.tmp 2) rfl g rfl _ (client_row kc rfl) ?_))
 refine (ccopied_any ⟨mw, r, ms, t, true, S, false, H⟩ (A, n, cp) (A', n', cp') v2 ((HS.out.below hb).more hsz) ((HH.out.below hb).more hsz) hn hn').mono ?_
 rintro e vc ⟨A1, n1, c1, A3, n3, c3, rfl, hp1, hp2, -, hvc⟩
 have oS := Lib.hid hp1
 have oH := Lib.hid hp2
 clear hp1 hp2
 obtain ⟨Z, hZ⟩ : ∃ Z, v2.heap.size = Z := ⟨_, rfl⟩
 rw [hZ] at oS oH
 have hgZ : g + 2 < Z := by omega
 replace kc := kc.below hvc kc.lt
 replace lc := kc.lt
 replace km := km.below hvc km.lt
 replace lm := km.lt
 replace kr := kr.below hvc kr.lt
 replace lr := kr.lt
 replace hb := hb.trans (hvc.mono hsz)
 replace hsz : g ≤ vc.heap.size := Nat.le_trans hsz hvc.size
 clear hvc
 unfold clv clc
 go_upto_region 12 with (fail)
 replace kc := kc.alloc (.cells #[.int .i64 mw, .int .i64 r, .int .i64 ms, .string t, .bool true, .slice A1 n1 c1, .bool false, .slice A3 n3 c3] 92)
 replace km := km.alloc (.cells #[.int .i64 mw, .int .i64 r, .int .i64 ms, .string t, .bool true, .slice A1 n1 c1, .bool false, .slice A3 n3 c3] 92)
 replace kr := kr.alloc (.cells #[.int .i64 mw, .int .i64 r, .int .i64 ms, .string t, .bool true, .slice A1 n1 c1, .bool false, .slice A3 n3 c3] 92)
 have ko := Blk.new vc 92 #[.int .i64 mw, .int .i64 r, .int .i64 ms, .string t, .bool true, .slice A1 n1 c1, .bool false, .slice A3 n3 c3]
 replace oS := Lib.hid (World.ownsRow.alloc oS.out (.cells #[.int .i64 mw, .int .i64 r, .int .i64 ms, .string t, .bool true, .slice A1 n1 c1, .bool false, .slice A3 n3 c3] 92))
 replace oH := Lib.hid (World.ownsRow.alloc oH.out (.cells #[.int .i64 mw, .int .i64 r, .int .i64 ms, .string t, .bool true, .slice A1 n1 c1, .bool false, .slice A3 n3 c3] 92))
 replace hb := hb.alloc hsz (.cells #[.int .i64 mw, .int .i64 r, .int .i64 ms, .string t, .bool true, .slice A1 n1 c1, .bool false, .slice A3 n3 c3] 92)
 have hs4 : (vc.alloc (.cells #[.int .i64 mw, .int .i64 r, .int .i64 ms, .string t, .bool true, .slice A1 n1 c1, .bool false, .slice A3 n3 c3] 92)).heap.size = vc.heap.size + 1 := by simp
 generalize (vc.alloc (.cells #[.int .i64 mw, .int .i64 r, .int .i64 ms, .string t, .bool true, .slice A1 n1 c1, .bool false, .slice A3 n3 c3] 92)) = U4 at *
 obtain ⟨b, heb⟩ : ∃ b, vc.heap.size = b := ⟨_, rfl⟩
 rw [heb] at ko ⊢
 replace hsz : g ≤ U4.heap.size := by omega
 have nq4_c : g < b := by omega
 have nq4_m : g + 1 < b := by omega
 have nq4_r : g + 2 < b := by omega
 have lo := ko.lt
 have co_1 := ko.cell 1
 have fo_1 := ko.frozen 1
 go_upto_region 13 with (fail)
 clear co_1 fo_1
 have ho5 : Only U4 (U4.setCell ⟨b, 1, none⟩ (.int .i64 (r + 1))) (fun k => k = b) := (Only.setCell (S := fun k => k = b) U4 ⟨b, 1, none⟩ (.int .i64 (r + 1)) (by simp))
 replace oS := Lib.hid (own_only oS.out ho5 (fun k hk h_ => by rcases h_ with rfl <;> first | exact own_blk_ne oS.out ko (by decide) hk))
 replace oH := Lib.hid (own_only oH.out ho5 (fun k hk h_ => by rcases h_ with rfl <;> first | exact own_blk_ne oH.out ko (by decide) hk))
 replace kc : Blk (U4.setCell ⟨b, 1, none⟩ (.int .i64 (r + 1))) g 92 #[.int .i64 mw, .int .i64 r, .int .i64 ms, .string t, .bool true, .slice A n cp, .bool false, .slice A' n' cp'] := (kc.far (p := ⟨b, 1, none⟩) (by simp only; omega) (.int .i64 (r + 1)))
 replace km : Blk (U4.setCell ⟨b, 1, none⟩ (.int .i64 (r + 1))) (g + 1) 82 #[.int .i64 r, .int .i64 mw, .int .i64 ms, .slice A2 n2 c2] := (km.far (p := ⟨b, 1, none⟩) (by simp only; omega) (.int .i64 (r + 1)))
 replace kr : Blk (U4.setCell ⟨b, 1, none⟩ (.int .i64 (r + 1))) (g + 2) 92 #[.int .i64 0, .int .i64 0, .int .i64 0, .string ⟨#[]⟩, .bool false, .slice none 0 0, .bool false, .slice none 0 0] := (kr.far (p := ⟨b, 1, none⟩) (by simp only; omega) (.int .i64 (r + 1)))
 replace ko : Blk (U4.setCell ⟨b, 1, none⟩ (.int .i64 (r + 1))) b 92 #[.int .i64 mw, .int .i64 (r + 1), .int .i64 ms, .string t, .bool true, .slice A1 n1 c1, .bool false, .slice A3 n3 c3] := (ko.set_ 1 (.int .i64 (r + 1)))
 replace hb : Below g w (U4.setCell ⟨b, 1, none⟩ (.int .i64 (r + 1))) := (hb.setCell (p := ⟨b, 1, none⟩) (by simp only; omega) (.int .i64 (r + 1)))
 have hs5 : (U4.setCell ⟨b, 1, none⟩ (.int .i64 (r + 1))).heap.size = U4.heap.size := by simp
 generalize (U4.setCell ⟨b, 1, none⟩ (.int .i64 (r + 1))) = U5 at *
 replace hsz : g ≤ U5.heap.size := by omega
 replace lc := kc.lt
 replace lm := km.lt
 replace lr := kr.lt
 replace lo := ko.lt
 have cm_1 := km.cell 1
 have cm_2 := km.cell 2
 have cc_0 := kc.cell 0
 have cc_2 := kc.cell 2
 have cc_4 := kc.cell 4
 have cc_6 := kc.cell 6
 have co_7 := ko.cell 7
 have fo_4 := ko.frozen 4
 have fo_5 := ko.frozen 5
 have co_4 := ko.cell 4
 have co_5 := ko.cell 5
 go_upto_region 16 with (fail)
 go_upto_region 17 with (fail)
 clear cm_1 cm_2 cc_0 cc_2 cc_4 cc_6 co_7 fo_4 fo_5 co_4 co_5
 have ho6 : Only U5 ((U5.setCell ⟨b, 4, none⟩ (.bool false)).setCell ⟨b, 5, none⟩ (.slice A3 n3 c3)) (fun k => k = b) := ((Only.setCell (S := fun k => k = b) U5 ⟨b, 4, none⟩ (.bool false) (by simp)).trans (Only.setCell (S := fun k => k = b) (U5.setCell ⟨b, 4, none⟩ (.bool false)) ⟨b, 5, none⟩ (.slice A3 n3 c3) (by simp)))
 replace oS := Lib.hid (own_only oS.out ho6 (fun k hk h_ => by rcases h_ with rfl <;> first | exact own_blk_ne oS.out ko (by decide) hk))
 replace oH := Lib.hid (own_only oH.out ho6 (fun k hk h_ => by rcases h_ with rfl <;> first | exact own_blk_ne oH.out ko (by decide) hk))
 replace kc : Blk ((U5.setCell ⟨b, 4, none⟩ (.bool false)).setCell ⟨b, 5, none⟩ (.slice A3 n3 c3)) g 92 #[.int .i64 mw, .int .i64 r, .int .i64 ms, .string t, .bool true, .slice A n cp, .bool false, .slice A' n' cp'] := ((kc.far (p := ⟨b, 4, none⟩) (by simp only; omega) (.bool false)).far (p := ⟨b, 5, none⟩) (by simp only; omega) (.slice A3 n3 c3))
 replace km : Blk ((U5.setCell ⟨b, 4, none⟩ (.bool false)).setCell ⟨b, 5, none⟩ (.slice A3 n3 c3)) (g + 1) 82 #[.int .i64 r, .int .i64 mw, .int .i64 ms, .slice A2 n2 c2] := ((km.far (p := ⟨b, 4, none⟩) (by simp only; omega) (.bool false)).far (p := ⟨b, 5, none⟩) (by simp only; omega) (.slice A3 n3 c3))
 replace kr : Blk ((U5.setCell ⟨b, 4, none⟩ (.bool false)).setCell ⟨b, 5, none⟩ (.slice A3 n3 c3)) (g + 2) 92 #[.int .i64 0, .int .i64 0, .int .i64 0, .string ⟨#[]⟩, .bool false, .slice none 0 0, .bool false, .slice none 0 0] := ((kr.far (p := ⟨b, 4, none⟩) (by simp only; omega) (.bool false)).far (p := ⟨b, 5, none⟩) (by simp only; omega) (.slice A3 n3 c3))
 replace ko : Blk ((U5.setCell ⟨b, 4, none⟩ (.bool false)).setCell ⟨b, 5, none⟩ (.slice A3 n3 c3)) b 92 #[.int .i64 mw, .int .i64 (r + 1), .int .i64 ms, .string t, .bool false, .slice A3 n3 c3, .bool false, .slice A3 n3 c3] := ((ko.set_ 4 (.bool false)).set_ 5 (.slice A3 n3 c3))
 replace hb : Below g w ((U5.setCell ⟨b, 4, none⟩ (.bool false)).setCell ⟨b, 5, none⟩ (.slice A3 n3 c3)) := ((hb.setCell (p := ⟨b, 4, none⟩) (by simp only; omega) (.bool false)).setCell (p := ⟨b, 5, none⟩) (by simp only; omega) (.slice A3 n3 c3))
 have hs6 : ((U5.setCell ⟨b, 4, none⟩ (.bool false)).setCell ⟨b, 5, none⟩ (.slice A3 n3 c3)).heap.size = U5.heap.size := by simp
 generalize ((U5.setCell ⟨b, 4, none⟩ (.bool false)).setCell ⟨b, 5, none⟩ (.slice A3 n3 c3)) = U6 at *
 replace hsz : g ≤ U6.heap.size := by omega
 replace lc := kc.lt
 replace lm := km.lt
 replace lr := kr.lt
 replace lo := ko.lt
 have co_6 := ko.cell 6
 have fo_6 := ko.frozen 6
 have co_7 := ko.cell 7
 have fo_7 := ko.frozen 7
 go_upto_region 18 with (fail)
 clear co_6 fo_6 co_7 fo_7
 have ho7 : Only U6 ((U6.setCell ⟨b, 6, none⟩ (.bool false)).setCell ⟨b, 7, none⟩ (.slice none 0 0)) (fun k => k = b) := ((Only.setCell (S := fun k => k = b) U6 ⟨b, 6, none⟩ (.bool false) (by simp)).trans (Only.setCell (S := fun k => k = b) (U6.setCell ⟨b, 6, none⟩ (.bool false)) ⟨b, 7, none⟩ (.slice none 0 0) (by simp)))
 replace oS := Lib.hid (own_only oS.out ho7 (fun k hk h_ => by rcases h_ with rfl <;> first | exact own_blk_ne oS.out ko (by decide) hk))
 replace oH := Lib.hid (own_only oH.out ho7 (fun k hk h_ => by rcases h_ with rfl <;> first | exact own_blk_ne oH.out ko (by decide) hk))
 replace kc : Blk ((U6.setCell ⟨b, 6, none⟩ (.bool false)).setCell ⟨b, 7, none⟩ (.slice none 0 0)) g 92 #[.int .i64 mw, .int .i64 r, .int .i64 ms, .string t, .bool true, .slice A n cp, .bool false, .slice A' n' cp'] := ((kc.far (p := ⟨b, 6, none⟩) (by simp only; omega) (.bool false)).far (p := ⟨b, 7, none⟩) (by simp only; omega) (.slice none 0 0))
 replace km : Blk ((U6.setCell ⟨b, 6, none⟩ (.bool false)).setCell ⟨b, 7, none⟩ (.slice none 0 0)) (g + 1) 82 #[.int .i64 r, .int .i64 mw, .int .i64 ms, .slice A2 n2 c2] := ((km.far (p := ⟨b, 6, none⟩) (by simp only; omega) (.bool false)).far (p := ⟨b, 7, none⟩) (by simp only; omega) (.slice none 0 0))
 replace kr : Blk ((U6.setCell ⟨b, 6, none⟩ (.bool false)).setCell ⟨b, 7, none⟩ (.slice none 0 0)) (g + 2) 92 #[.int .i64 0, .int .i64 0, .int .i64 0, .string ⟨#[]⟩, .bool false, .slice none 0 0, .bool false, .slice none 0 0] := ((kr.far (p := ⟨b, 6, none⟩) (by simp only; omega) (.bool false)).far (p := ⟨b, 7, none⟩) (by simp only; omega) (.slice none 0 0))
 replace ko : Blk ((U6.setCell ⟨b, 6, none⟩ (.bool false)).setCell ⟨b, 7, none⟩ (.slice none 0 0)) b 92 #[.int .i64 mw, .int .i64 (r + 1), .int .i64 ms, .string t, .bool false, .slice A3 n3 c3, .bool false, .slice none 0 0] := ((ko.set_ 6 (.bool false)).set_ 7 (.slice none 0 0))
 replace hb : Below g w ((U6.setCell ⟨b, 6, none⟩ (.bool false)).setCell ⟨b, 7, none⟩ (.slice none 0 0)) := ((hb.setCell (p := ⟨b, 6, none⟩) (by simp only; omega) (.bool false)).setCell (p := ⟨b, 7, none⟩) (by simp only; omega) (.slice none 0 0))
 have hs7 : ((U6.setCell ⟨b, 6, none⟩ (.bool false)).setCell ⟨b, 7, none⟩ (.slice none 0 0)).heap.size = U6.heap.size := by simp
 generalize ((U6.setCell ⟨b, 6, none⟩ (.bool false)).setCell ⟨b, 7, none⟩ (.slice none 0 0)) = U7 at *
 replace hsz : g ≤ U7.heap.size := by omega
 replace lc := kc.lt
 replace lm := km.lt
 replace lr := kr.lt
 replace lo := ko.lt
 have cc_6 := kc.cell 6
 have co_2 := ko.cell 2
 have fo_2 := ko.frozen 2
 go_upto_region 20 with (fail)
 clear cc_6 co_2 fo_2
 go_wp2_with (first | (refine wpList_load_blk rfl _ (.tmp 8) rfl b rfl _ (client_row ko rfl) ?_) | (refine wpList_store_blk rfl _ (.tmp 4) (.tmp 78) rfl (g + 2) _ rfl rfl _ _ kr client_info rfl (by simp [Value.oneCell']) ?_))
 have kz := kr.row #[.int .i64 mw, .int .i64 (r + 1), .int .i64 ms, .string t, .bool false, .slice A3 n3 c3, .bool false, .slice none 0 0]
 have hz := below_setRow hb (g + 2) #[.int .i64 mw, .int .i64 (r + 1), .int .i64 ms, .string t, .bool false, .slice A3 n3 c3, .bool false, .slice none 0 0] (by omega)
 have hzo := Only.setRow U7 (g + 2) #[.int .i64 mw, .int .i64 (r + 1), .int .i64 ms, .string t, .bool false, .slice A3 n3 c3, .bool false, .slice none 0 0]
 have zS := own_only oS.out hzo (fun k hk h_ => by rcases h_ with rfl; exact own_blk_ne oS.out kr (by decide) hk)
 have zH := own_only oH.out hzo (fun k hk h_ => by rcases h_ with rfl; exact own_blk_ne oH.out kr (by decide) hk)
 refine row_end2 rfl rfl rfl rfl (client_row kz rfl) ?_
 exact ⟨(A3, n3, c3), (none, 0, 0), rfl, own_base zH (by omega), OwnP.nil _ _, hbase ▸ hz⟩
theorem cin_own_true (a r sq : Int) (t : ByteArray) (f q : Bool) (S H : List Pt) (A A' : Option Addr) (n n' cp cp' : Nat) (mw ms : Int) (d : List Pt) (A2 : Option Addr) (n2 c2 : Nat) (w : World) (hk : CkOk ⟨a, r, sq, t, f, S, q, H⟩)
 (hS : RdP w w.heap.size A n cp S) (hH : RdP w w.heap.size A' n' cp' H) (hd : RdP w w.heap.size A2 n2 c2 d) (hn : n ≤ 4000000) (hn' : n' ≤ 4000000) (hr : r ≠ 2147483647) (he : chk d = 0) (hf : f = true) (hq : q = true) (h1 : mw = a) (h2 : ms = sq) (hm : sq ≠ 2147483647) :
 Calls Try.prog 74 #[.agg #[.int .i64 a, .int .i64 r, .int .i64 sq, .string t, .bool f, .slice A n cp, .bool q, .slice A' n' cp'], .agg #[.int .i64 r, .int .i64 mw, .int .i64 ms, .slice A2 n2 c2]] w fun e w' => ∃ s1 h1 : Sl, e = .returned (.tuple #[clv ⟨a, r + 1, sq + 1, t, true, H, false, []⟩ s1 h1, .int .i64 0]) ∧ OwnSl w' w.heap.size s1 H ∧ OwnSl w' w.heap.size h1 [] ∧ Below w.heap.size w w' := by
 subst hf
 subst hq
 subst h1
 subst h2
 have He := Lib.hid he
 clear he
 have hmf : (ms == 2147483647) = false := by simpa using hm
 clear hm
 have hs5 := hk.text
 have Hk := Lib.hid hk
 have HS := Lib.hid hS
 have HH := Lib.hid hH
 have Hd := Lib.hid hd
 have hsq0 := hk.seq0
 have hsq1 := hk.seq1
 have hr0 := hk.rev0
 have hr1 := hk.rev1
 simp only at hs5 hsq0 hsq1 hr0 hr1
 have hrf : (r == 2147483647) = false := by simpa using hr
 clear hk hS hH hd hr
 have hb0 : Below w.heap.size w w := Below.refl _ _
 have hb1 := hb0.alloc hb0.size (.cells #[.int .i64 mw, .int .i64 r, .int .i64 ms, .string t, .bool true, .slice A n cp, .bool true, .slice A' n' cp'] 92)
 have kc := Blk.new w 92 #[.int .i64 mw, .int .i64 r, .int .i64 ms, .string t, .bool true, .slice A n cp, .bool true, .slice A' n' cp']
 have hb2 := hb1.alloc hb1.size (.cells #[.int .i64 r, .int .i64 mw, .int .i64 ms, .slice A2 n2 c2] 82)
 replace kc := kc.alloc (.cells #[.int .i64 r, .int .i64 mw, .int .i64 ms, .slice A2 n2 c2] 82)
 have km := Blk.new (w.alloc (.cells #[.int .i64 mw, .int .i64 r, .int .i64 ms, .string t, .bool true, .slice A n cp, .bool true, .slice A' n' cp'] 92)) 82 #[.int .i64 r, .int .i64 mw, .int .i64 ms, .slice A2 n2 c2]
 have hb3 := hb2.alloc hb2.size (.cells #[.int .i64 0, .int .i64 0, .int .i64 0, .string ⟨#[]⟩, .bool false, .slice none 0 0, .bool false, .slice none 0 0] 92)
 replace kc := kc.alloc (.cells #[.int .i64 0, .int .i64 0, .int .i64 0, .string ⟨#[]⟩, .bool false, .slice none 0 0, .bool false, .slice none 0 0] 92)
 replace km := km.alloc (.cells #[.int .i64 0, .int .i64 0, .int .i64 0, .string ⟨#[]⟩, .bool false, .slice none 0 0, .bool false, .slice none 0 0] 92)
 have kr := Blk.new ((w.alloc (.cells #[.int .i64 mw, .int .i64 r, .int .i64 ms, .string t, .bool true, .slice A n cp, .bool true, .slice A' n' cp'] 92)).alloc (.cells #[.int .i64 r, .int .i64 mw, .int .i64 ms, .slice A2 n2 c2] 82)) 92 #[.int .i64 0, .int .i64 0, .int .i64 0, .string ⟨#[]⟩, .bool false, .slice none 0 0, .bool false, .slice none 0 0]
 clear hb0 hb1 hb2
 have hb := hb3
 clear hb3
 simp only [World.size_alloc] at kc km kr
 go_enter Try.func74, Try.ntmps74
 go_upto_region 1 with (fail)
 generalize (((w.alloc (.cells #[.int .i64 mw, .int .i64 r, .int .i64 ms, .string t, .bool true, .slice A n cp, .bool true, .slice A' n' cp'] 92)).alloc (.cells #[.int .i64 r, .int .i64 mw, .int .i64 ms, .slice A2 n2 c2] 82)).alloc (.cells #[.int .i64 0, .int .i64 0, .int .i64 0, .string ⟨#[]⟩, .bool false, .slice none 0 0, .bool false, .slice none 0 0] 92)) = W0 at *
 obtain ⟨g, hbase⟩ : ∃ g, w.heap.size = g := ⟨_, rfl⟩
 rw [hbase] at hb kc km kr ⊢
 have hsz : g ≤ W0.heap.size := by have := hb.size; omega
 have lc := kc.lt
 have lm := km.lt
 have lr := kr.lt
 have HS := Lib.hid (hbase ▸ HS.out)
 have HH := Lib.hid (hbase ▸ HH.out)
 have Hd := Lib.hid (hbase ▸ Hd.out)
 go_wp2_with (first | (refine wpList_load_blk rfl _ (.tmp 2) rfl g rfl _ (client_row kc rfl) ?_))
 refine (ccheck_good ⟨mw, r, ms, t, true, S, true, H⟩ (A, n, cp) (A', n', cp') W0 Hk.out ((HS.out.below hb).more hsz) ((HH.out.below hb).more hsz)).mono ?_
 rintro e v1 ⟨rfl, hv1⟩
 replace kc := kc.below hv1 kc.lt
 replace lc := kc.lt
 replace km := km.below hv1 km.lt
 replace lm := km.lt
 replace kr := kr.below hv1 kr.lt
 replace lr := kr.lt
 replace hb := hb.trans (hv1.mono hsz)
 replace hsz : g ≤ v1.heap.size := Nat.le_trans hsz hv1.size
 clear hv1
 go_upto_region 4 with (fail)
 have cm_3 := km.cell 3
 go_wp2_with fail
 have hc := chk_any d A2 n2 c2 g v1 (Hd.out.below hb) hsz
 clear cm_3
 rw [He.out] at hc
 refine (hc).mono ?_
 rintro e v2 ⟨rfl, hv2⟩
 replace kc := kc.below hv2 kc.lt
 replace lc := kc.lt
 replace km := km.below hv2 km.lt
 replace lm := km.lt
 replace kr := kr.below hv2 kr.lt
 replace lr := kr.lt
 replace hb := hb.trans (hv2.mono hsz)
 replace hsz : g ≤ v2.heap.size := Nat.le_trans hsz hv2.size
 clear hv2
 clear hc
 have cm_0 := km.cell 0
 have cc_1 := kc.cell 1
 go_upto_region 11 with (fail)
 clear cm_0 cc_1
 go_wp2_with (first | (refine wpList_load_blk rfl _ (.tmp 2) rfl g rfl _ (client_row kc rfl) ?_))
 refine (ccopied_any ⟨mw, r, ms, t, true, S, true, H⟩ (A, n, cp) (A', n', cp') v2 ((HS.out.below hb).more hsz) ((HH.out.below hb).more hsz) hn hn').mono ?_
 rintro e vc ⟨A1, n1, c1, A3, n3, c3, rfl, hp1, hp2, -, hvc⟩
 have oS := Lib.hid hp1
 have oH := Lib.hid hp2
 clear hp1 hp2
 obtain ⟨Z, hZ⟩ : ∃ Z, v2.heap.size = Z := ⟨_, rfl⟩
 rw [hZ] at oS oH
 have hgZ : g + 2 < Z := by omega
 replace kc := kc.below hvc kc.lt
 replace lc := kc.lt
 replace km := km.below hvc km.lt
 replace lm := km.lt
 replace kr := kr.below hvc kr.lt
 replace lr := kr.lt
 replace hb := hb.trans (hvc.mono hsz)
 replace hsz : g ≤ vc.heap.size := Nat.le_trans hsz hvc.size
 clear hvc
 unfold clv clc
 go_upto_region 12 with (fail)
 replace kc := kc.alloc (.cells #[.int .i64 mw, .int .i64 r, .int .i64 ms, .string t, .bool true, .slice A1 n1 c1, .bool true, .slice A3 n3 c3] 92)
 replace km := km.alloc (.cells #[.int .i64 mw, .int .i64 r, .int .i64 ms, .string t, .bool true, .slice A1 n1 c1, .bool true, .slice A3 n3 c3] 92)
 replace kr := kr.alloc (.cells #[.int .i64 mw, .int .i64 r, .int .i64 ms, .string t, .bool true, .slice A1 n1 c1, .bool true, .slice A3 n3 c3] 92)
 have ko := Blk.new vc 92 #[.int .i64 mw, .int .i64 r, .int .i64 ms, .string t, .bool true, .slice A1 n1 c1, .bool true, .slice A3 n3 c3]
 replace oS := Lib.hid (World.ownsRow.alloc oS.out (.cells #[.int .i64 mw, .int .i64 r, .int .i64 ms, .string t, .bool true, .slice A1 n1 c1, .bool true, .slice A3 n3 c3] 92))
 replace oH := Lib.hid (World.ownsRow.alloc oH.out (.cells #[.int .i64 mw, .int .i64 r, .int .i64 ms, .string t, .bool true, .slice A1 n1 c1, .bool true, .slice A3 n3 c3] 92))
 replace hb := hb.alloc hsz (.cells #[.int .i64 mw, .int .i64 r, .int .i64 ms, .string t, .bool true, .slice A1 n1 c1, .bool true, .slice A3 n3 c3] 92)
 have hs4 : (vc.alloc (.cells #[.int .i64 mw, .int .i64 r, .int .i64 ms, .string t, .bool true, .slice A1 n1 c1, .bool true, .slice A3 n3 c3] 92)).heap.size = vc.heap.size + 1 := by simp
 generalize (vc.alloc (.cells #[.int .i64 mw, .int .i64 r, .int .i64 ms, .string t, .bool true, .slice A1 n1 c1, .bool true, .slice A3 n3 c3] 92)) = U4 at *
 obtain ⟨b, heb⟩ : ∃ b, vc.heap.size = b := ⟨_, rfl⟩
 rw [heb] at ko ⊢
 replace hsz : g ≤ U4.heap.size := by omega
 have nq4_c : g < b := by omega
 have nq4_m : g + 1 < b := by omega
 have nq4_r : g + 2 < b := by omega
 have lo := ko.lt
 have co_1 := ko.cell 1
 have fo_1 := ko.frozen 1
 go_upto_region 13 with (fail)
 clear co_1 fo_1
 have ho5 : Only U4 (U4.setCell ⟨b, 1, none⟩ (.int .i64 (r + 1))) (fun k => k = b) := (Only.setCell (S := fun k => k = b) U4 ⟨b, 1, none⟩ (.int .i64 (r + 1)) (by simp))
 replace oS := Lib.hid (own_only oS.out ho5 (fun k hk h_ => by rcases h_ with rfl <;> first | exact own_blk_ne oS.out ko (by decide) hk))
 replace oH := Lib.hid (own_only oH.out ho5 (fun k hk h_ => by rcases h_ with rfl <;> first | exact own_blk_ne oH.out ko (by decide) hk))
 replace kc : Blk (U4.setCell ⟨b, 1, none⟩ (.int .i64 (r + 1))) g 92 #[.int .i64 mw, .int .i64 r, .int .i64 ms, .string t, .bool true, .slice A n cp, .bool true, .slice A' n' cp'] := (kc.far (p := ⟨b, 1, none⟩) (by simp only; omega) (.int .i64 (r + 1)))
 replace km : Blk (U4.setCell ⟨b, 1, none⟩ (.int .i64 (r + 1))) (g + 1) 82 #[.int .i64 r, .int .i64 mw, .int .i64 ms, .slice A2 n2 c2] := (km.far (p := ⟨b, 1, none⟩) (by simp only; omega) (.int .i64 (r + 1)))
 replace kr : Blk (U4.setCell ⟨b, 1, none⟩ (.int .i64 (r + 1))) (g + 2) 92 #[.int .i64 0, .int .i64 0, .int .i64 0, .string ⟨#[]⟩, .bool false, .slice none 0 0, .bool false, .slice none 0 0] := (kr.far (p := ⟨b, 1, none⟩) (by simp only; omega) (.int .i64 (r + 1)))
 replace ko : Blk (U4.setCell ⟨b, 1, none⟩ (.int .i64 (r + 1))) b 92 #[.int .i64 mw, .int .i64 (r + 1), .int .i64 ms, .string t, .bool true, .slice A1 n1 c1, .bool true, .slice A3 n3 c3] := (ko.set_ 1 (.int .i64 (r + 1)))
 replace hb : Below g w (U4.setCell ⟨b, 1, none⟩ (.int .i64 (r + 1))) := (hb.setCell (p := ⟨b, 1, none⟩) (by simp only; omega) (.int .i64 (r + 1)))
 have hs5 : (U4.setCell ⟨b, 1, none⟩ (.int .i64 (r + 1))).heap.size = U4.heap.size := by simp
 generalize (U4.setCell ⟨b, 1, none⟩ (.int .i64 (r + 1))) = U5 at *
 replace hsz : g ≤ U5.heap.size := by omega
 replace lc := kc.lt
 replace lm := km.lt
 replace lr := kr.lt
 replace lo := ko.lt
 have cm_1 := km.cell 1
 have cm_2 := km.cell 2
 have cc_0 := kc.cell 0
 have cc_2 := kc.cell 2
 have cc_4 := kc.cell 4
 have cc_6 := kc.cell 6
 have co_7 := ko.cell 7
 have fo_4 := ko.frozen 4
 have fo_5 := ko.frozen 5
 have co_4 := ko.cell 4
 have co_5 := ko.cell 5
 go_upto_region 16 with (fail)
 go_upto_region 17 with (fail)
 clear cm_1 cm_2 cc_0 cc_2 cc_4 cc_6 co_7 fo_4 fo_5 co_4 co_5
 have ho6 : Only U5 ((U5.setCell ⟨b, 4, none⟩ (.bool true)).setCell ⟨b, 5, none⟩ (.slice A3 n3 c3)) (fun k => k = b) := ((Only.setCell (S := fun k => k = b) U5 ⟨b, 4, none⟩ (.bool true) (by simp)).trans (Only.setCell (S := fun k => k = b) (U5.setCell ⟨b, 4, none⟩ (.bool true)) ⟨b, 5, none⟩ (.slice A3 n3 c3) (by simp)))
 replace oS := Lib.hid (own_only oS.out ho6 (fun k hk h_ => by rcases h_ with rfl <;> first | exact own_blk_ne oS.out ko (by decide) hk))
 replace oH := Lib.hid (own_only oH.out ho6 (fun k hk h_ => by rcases h_ with rfl <;> first | exact own_blk_ne oH.out ko (by decide) hk))
 replace kc : Blk ((U5.setCell ⟨b, 4, none⟩ (.bool true)).setCell ⟨b, 5, none⟩ (.slice A3 n3 c3)) g 92 #[.int .i64 mw, .int .i64 r, .int .i64 ms, .string t, .bool true, .slice A n cp, .bool true, .slice A' n' cp'] := ((kc.far (p := ⟨b, 4, none⟩) (by simp only; omega) (.bool true)).far (p := ⟨b, 5, none⟩) (by simp only; omega) (.slice A3 n3 c3))
 replace km : Blk ((U5.setCell ⟨b, 4, none⟩ (.bool true)).setCell ⟨b, 5, none⟩ (.slice A3 n3 c3)) (g + 1) 82 #[.int .i64 r, .int .i64 mw, .int .i64 ms, .slice A2 n2 c2] := ((km.far (p := ⟨b, 4, none⟩) (by simp only; omega) (.bool true)).far (p := ⟨b, 5, none⟩) (by simp only; omega) (.slice A3 n3 c3))
 replace kr : Blk ((U5.setCell ⟨b, 4, none⟩ (.bool true)).setCell ⟨b, 5, none⟩ (.slice A3 n3 c3)) (g + 2) 92 #[.int .i64 0, .int .i64 0, .int .i64 0, .string ⟨#[]⟩, .bool false, .slice none 0 0, .bool false, .slice none 0 0] := ((kr.far (p := ⟨b, 4, none⟩) (by simp only; omega) (.bool true)).far (p := ⟨b, 5, none⟩) (by simp only; omega) (.slice A3 n3 c3))
 replace ko : Blk ((U5.setCell ⟨b, 4, none⟩ (.bool true)).setCell ⟨b, 5, none⟩ (.slice A3 n3 c3)) b 92 #[.int .i64 mw, .int .i64 (r + 1), .int .i64 ms, .string t, .bool true, .slice A3 n3 c3, .bool true, .slice A3 n3 c3] := ((ko.set_ 4 (.bool true)).set_ 5 (.slice A3 n3 c3))
 replace hb : Below g w ((U5.setCell ⟨b, 4, none⟩ (.bool true)).setCell ⟨b, 5, none⟩ (.slice A3 n3 c3)) := ((hb.setCell (p := ⟨b, 4, none⟩) (by simp only; omega) (.bool true)).setCell (p := ⟨b, 5, none⟩) (by simp only; omega) (.slice A3 n3 c3))
 have hs6 : ((U5.setCell ⟨b, 4, none⟩ (.bool true)).setCell ⟨b, 5, none⟩ (.slice A3 n3 c3)).heap.size = U5.heap.size := by simp
 generalize ((U5.setCell ⟨b, 4, none⟩ (.bool true)).setCell ⟨b, 5, none⟩ (.slice A3 n3 c3)) = U6 at *
 replace hsz : g ≤ U6.heap.size := by omega
 replace lc := kc.lt
 replace lm := km.lt
 replace lr := kr.lt
 replace lo := ko.lt
 have co_6 := ko.cell 6
 have fo_6 := ko.frozen 6
 have co_7 := ko.cell 7
 have fo_7 := ko.frozen 7
 go_upto_region 18 with (fail)
 clear co_6 fo_6 co_7 fo_7
 have ho7 : Only U6 ((U6.setCell ⟨b, 6, none⟩ (.bool false)).setCell ⟨b, 7, none⟩ (.slice none 0 0)) (fun k => k = b) := ((Only.setCell (S := fun k => k = b) U6 ⟨b, 6, none⟩ (.bool false) (by simp)).trans (Only.setCell (S := fun k => k = b) (U6.setCell ⟨b, 6, none⟩ (.bool false)) ⟨b, 7, none⟩ (.slice none 0 0) (by simp)))
 replace oS := Lib.hid (own_only oS.out ho7 (fun k hk h_ => by rcases h_ with rfl <;> first | exact own_blk_ne oS.out ko (by decide) hk))
 replace oH := Lib.hid (own_only oH.out ho7 (fun k hk h_ => by rcases h_ with rfl <;> first | exact own_blk_ne oH.out ko (by decide) hk))
 replace kc : Blk ((U6.setCell ⟨b, 6, none⟩ (.bool false)).setCell ⟨b, 7, none⟩ (.slice none 0 0)) g 92 #[.int .i64 mw, .int .i64 r, .int .i64 ms, .string t, .bool true, .slice A n cp, .bool true, .slice A' n' cp'] := ((kc.far (p := ⟨b, 6, none⟩) (by simp only; omega) (.bool false)).far (p := ⟨b, 7, none⟩) (by simp only; omega) (.slice none 0 0))
 replace km : Blk ((U6.setCell ⟨b, 6, none⟩ (.bool false)).setCell ⟨b, 7, none⟩ (.slice none 0 0)) (g + 1) 82 #[.int .i64 r, .int .i64 mw, .int .i64 ms, .slice A2 n2 c2] := ((km.far (p := ⟨b, 6, none⟩) (by simp only; omega) (.bool false)).far (p := ⟨b, 7, none⟩) (by simp only; omega) (.slice none 0 0))
 replace kr : Blk ((U6.setCell ⟨b, 6, none⟩ (.bool false)).setCell ⟨b, 7, none⟩ (.slice none 0 0)) (g + 2) 92 #[.int .i64 0, .int .i64 0, .int .i64 0, .string ⟨#[]⟩, .bool false, .slice none 0 0, .bool false, .slice none 0 0] := ((kr.far (p := ⟨b, 6, none⟩) (by simp only; omega) (.bool false)).far (p := ⟨b, 7, none⟩) (by simp only; omega) (.slice none 0 0))
 replace ko : Blk ((U6.setCell ⟨b, 6, none⟩ (.bool false)).setCell ⟨b, 7, none⟩ (.slice none 0 0)) b 92 #[.int .i64 mw, .int .i64 (r + 1), .int .i64 ms, .string t, .bool true, .slice A3 n3 c3, .bool false, .slice none 0 0] := ((ko.set_ 6 (.bool false)).set_ 7 (.slice none 0 0))
 replace hb : Below g w ((U6.setCell ⟨b, 6, none⟩ (.bool false)).setCell ⟨b, 7, none⟩ (.slice none 0 0)) := ((hb.setCell (p := ⟨b, 6, none⟩) (by simp only; omega) (.bool false)).setCell (p := ⟨b, 7, none⟩) (by simp only; omega) (.slice none 0 0))
 have hs7 : ((U6.setCell ⟨b, 6, none⟩ (.bool false)).setCell ⟨b, 7, none⟩ (.slice none 0 0)).heap.size = U6.heap.size := by simp
 generalize ((U6.setCell ⟨b, 6, none⟩ (.bool false)).setCell ⟨b, 7, none⟩ (.slice none 0 0)) = U7 at *
 replace hsz : g ≤ U7.heap.size := by omega
 replace lc := kc.lt
 replace lm := km.lt
 replace lr := kr.lt
 replace lo := ko.lt
 have cc_6 := kc.cell 6
 have co_2 := ko.cell 2
 have fo_2 := ko.frozen 2
 go_upto_region 20 with (fail)
 clear cc_6 co_2 fo_2
 have ho8 : Only U7 (U7.setCell ⟨b, 2, none⟩ (.int .i64 (ms + 1))) (fun k => k = b) := (Only.setCell (S := fun k => k = b) U7 ⟨b, 2, none⟩ (.int .i64 (ms + 1)) (by simp))
 replace oS := Lib.hid (own_only oS.out ho8 (fun k hk h_ => by rcases h_ with rfl <;> first | exact own_blk_ne oS.out ko (by decide) hk))
 replace oH := Lib.hid (own_only oH.out ho8 (fun k hk h_ => by rcases h_ with rfl <;> first | exact own_blk_ne oH.out ko (by decide) hk))
 replace kc : Blk (U7.setCell ⟨b, 2, none⟩ (.int .i64 (ms + 1))) g 92 #[.int .i64 mw, .int .i64 r, .int .i64 ms, .string t, .bool true, .slice A n cp, .bool true, .slice A' n' cp'] := (kc.far (p := ⟨b, 2, none⟩) (by simp only; omega) (.int .i64 (ms + 1)))
 replace km : Blk (U7.setCell ⟨b, 2, none⟩ (.int .i64 (ms + 1))) (g + 1) 82 #[.int .i64 r, .int .i64 mw, .int .i64 ms, .slice A2 n2 c2] := (km.far (p := ⟨b, 2, none⟩) (by simp only; omega) (.int .i64 (ms + 1)))
 replace kr : Blk (U7.setCell ⟨b, 2, none⟩ (.int .i64 (ms + 1))) (g + 2) 92 #[.int .i64 0, .int .i64 0, .int .i64 0, .string ⟨#[]⟩, .bool false, .slice none 0 0, .bool false, .slice none 0 0] := (kr.far (p := ⟨b, 2, none⟩) (by simp only; omega) (.int .i64 (ms + 1)))
 replace ko : Blk (U7.setCell ⟨b, 2, none⟩ (.int .i64 (ms + 1))) b 92 #[.int .i64 mw, .int .i64 (r + 1), .int .i64 (ms + 1), .string t, .bool true, .slice A3 n3 c3, .bool false, .slice none 0 0] := (ko.set_ 2 (.int .i64 (ms + 1)))
 replace hb : Below g w (U7.setCell ⟨b, 2, none⟩ (.int .i64 (ms + 1))) := (hb.setCell (p := ⟨b, 2, none⟩) (by simp only; omega) (.int .i64 (ms + 1)))
 have hs8 : (U7.setCell ⟨b, 2, none⟩ (.int .i64 (ms + 1))).heap.size = U7.heap.size := by simp
 generalize (U7.setCell ⟨b, 2, none⟩ (.int .i64 (ms + 1))) = U8 at *
 replace hsz : g ≤ U8.heap.size := by omega
 replace lc := kc.lt
 replace lm := km.lt
 replace lr := kr.lt
 replace lo := ko.lt
 go_wp2_with (first | (refine wpList_load_blk rfl _ (.tmp 8) rfl b rfl _ (client_row ko rfl) ?_) | (refine wpList_store_blk rfl _ (.tmp 4) (.tmp 78) rfl (g + 2) _ rfl rfl _ _ kr client_info rfl (by simp [Value.oneCell']) ?_))
 have kz := kr.row #[.int .i64 mw, .int .i64 (r + 1), .int .i64 (ms + 1), .string t, .bool true, .slice A3 n3 c3, .bool false, .slice none 0 0]
 have hz := below_setRow hb (g + 2) #[.int .i64 mw, .int .i64 (r + 1), .int .i64 (ms + 1), .string t, .bool true, .slice A3 n3 c3, .bool false, .slice none 0 0] (by omega)
 have hzo := Only.setRow U8 (g + 2) #[.int .i64 mw, .int .i64 (r + 1), .int .i64 (ms + 1), .string t, .bool true, .slice A3 n3 c3, .bool false, .slice none 0 0]
 have zS := own_only oS.out hzo (fun k hk h_ => by rcases h_ with rfl; exact own_blk_ne oS.out kr (by decide) hk)
 have zH := own_only oH.out hzo (fun k hk h_ => by rcases h_ with rfl; exact own_blk_ne oH.out kr (by decide) hk)
 refine row_end2 rfl rfl rfl rfl (client_row kz rfl) ?_
 exact ⟨(A3, n3, c3), (none, 0, 0), rfl, own_base zH (by omega), OwnP.nil _ _, hbase ▸ hz⟩
theorem cin_ff_ok (a r sq : Int) (t : ByteArray) (f q : Bool) (S H : List Pt) (A A' : Option Addr) (n n' cp cp' : Nat) (mw ms : Int) (d : List Pt) (A2 : Option Addr) (n2 c2 : Nat) (w : World) (hk : CkOk ⟨a, r, sq, t, f, S, q, H⟩)
 (hS : RdP w w.heap.size A n cp S) (hH : RdP w w.heap.size A' n' cp' H) (hd : RdP w w.heap.size A2 n2 c2 d) (hn : n ≤ 4000000) (hn' : n' ≤ 4000000) (hr : r ≠ 2147483647) (he : chk d = 0) (hf : f = false) (hq : q = false) (h1 : mw ≠ a) (dd : doE d t = 0) :
 Calls Try.prog 74 #[.agg #[.int .i64 a, .int .i64 r, .int .i64 sq, .string t, .bool f, .slice A n cp, .bool q, .slice A' n' cp'], .agg #[.int .i64 r, .int .i64 mw, .int .i64 ms, .slice A2 n2 c2]] w fun e w' => ∃ s1 h1 : Sl, e = .returned (.tuple #[clv ⟨a, r + 1, sq, doS d t, false, S, false, H⟩ s1 h1, .int .i64 0]) ∧ OwnSl w' w.heap.size s1 S ∧ OwnSl w' w.heap.size h1 H ∧ Below w.heap.size w w' := by
 subst hf
 subst hq
 have hmf : (mw == a) = false := by simpa using h1
 have He := Lib.hid he
 clear he h1
 have H_dd := Lib.hid dd
 clear dd
 have hs5 := hk.text
 have Hk := Lib.hid hk
 have HS := Lib.hid hS
 have HH := Lib.hid hH
 have Hd := Lib.hid hd
 have hsq0 := hk.seq0
 have hsq1 := hk.seq1
 have hr0 := hk.rev0
 have hr1 := hk.rev1
 simp only at hs5 hsq0 hsq1 hr0 hr1
 have hrf : (r == 2147483647) = false := by simpa using hr
 clear hk hS hH hd hr
 have hb0 : Below w.heap.size w w := Below.refl _ _
 have hb1 := hb0.alloc hb0.size (.cells #[.int .i64 a, .int .i64 r, .int .i64 sq, .string t, .bool false, .slice A n cp, .bool false, .slice A' n' cp'] 92)
 have kc := Blk.new w 92 #[.int .i64 a, .int .i64 r, .int .i64 sq, .string t, .bool false, .slice A n cp, .bool false, .slice A' n' cp']
 have hb2 := hb1.alloc hb1.size (.cells #[.int .i64 r, .int .i64 mw, .int .i64 ms, .slice A2 n2 c2] 82)
 replace kc := kc.alloc (.cells #[.int .i64 r, .int .i64 mw, .int .i64 ms, .slice A2 n2 c2] 82)
 have km := Blk.new (w.alloc (.cells #[.int .i64 a, .int .i64 r, .int .i64 sq, .string t, .bool false, .slice A n cp, .bool false, .slice A' n' cp'] 92)) 82 #[.int .i64 r, .int .i64 mw, .int .i64 ms, .slice A2 n2 c2]
 have hb3 := hb2.alloc hb2.size (.cells #[.int .i64 0, .int .i64 0, .int .i64 0, .string ⟨#[]⟩, .bool false, .slice none 0 0, .bool false, .slice none 0 0] 92)
 replace kc := kc.alloc (.cells #[.int .i64 0, .int .i64 0, .int .i64 0, .string ⟨#[]⟩, .bool false, .slice none 0 0, .bool false, .slice none 0 0] 92)
 replace km := km.alloc (.cells #[.int .i64 0, .int .i64 0, .int .i64 0, .string ⟨#[]⟩, .bool false, .slice none 0 0, .bool false, .slice none 0 0] 92)
 have kr := Blk.new ((w.alloc (.cells #[.int .i64 a, .int .i64 r, .int .i64 sq, .string t, .bool false, .slice A n cp, .bool false, .slice A' n' cp'] 92)).alloc (.cells #[.int .i64 r, .int .i64 mw, .int .i64 ms, .slice A2 n2 c2] 82)) 92 #[.int .i64 0, .int .i64 0, .int .i64 0, .string ⟨#[]⟩, .bool false, .slice none 0 0, .bool false, .slice none 0 0]
 clear hb0 hb1 hb2
 have hb := hb3
 clear hb3
 simp only [World.size_alloc] at kc km kr
 go_enter Try.func74, Try.ntmps74
 go_upto_region 1 with (fail)
 generalize (((w.alloc (.cells #[.int .i64 a, .int .i64 r, .int .i64 sq, .string t, .bool false, .slice A n cp, .bool false, .slice A' n' cp'] 92)).alloc (.cells #[.int .i64 r, .int .i64 mw, .int .i64 ms, .slice A2 n2 c2] 82)).alloc (.cells #[.int .i64 0, .int .i64 0, .int .i64 0, .string ⟨#[]⟩, .bool false, .slice none 0 0, .bool false, .slice none 0 0] 92)) = W0 at *
 obtain ⟨g, hbase⟩ : ∃ g, w.heap.size = g := ⟨_, rfl⟩
 rw [hbase] at hb kc km kr ⊢
 have hsz : g ≤ W0.heap.size := by have := hb.size; omega
 have lc := kc.lt
 have lm := km.lt
 have lr := kr.lt
 have HS := Lib.hid (hbase ▸ HS.out)
 have HH := Lib.hid (hbase ▸ HH.out)
 have Hd := Lib.hid (hbase ▸ Hd.out)
 go_wp2_with (first | (refine wpList_load_blk rfl _ (.tmp 2) rfl g rfl _ (client_row kc rfl) ?_))
 refine (ccheck_good ⟨a, r, sq, t, false, S, false, H⟩ (A, n, cp) (A', n', cp') W0 Hk.out ((HS.out.below hb).more hsz) ((HH.out.below hb).more hsz)).mono ?_
 rintro e v1 ⟨rfl, hv1⟩
 replace kc := kc.below hv1 kc.lt
 replace lc := kc.lt
 replace km := km.below hv1 km.lt
 replace lm := km.lt
 replace kr := kr.below hv1 kr.lt
 replace lr := kr.lt
 replace hb := hb.trans (hv1.mono hsz)
 replace hsz : g ≤ v1.heap.size := Nat.le_trans hsz hv1.size
 clear hv1
 go_upto_region 4 with (fail)
 have cm_3 := km.cell 3
 go_wp2_with fail
 have hc := chk_any d A2 n2 c2 g v1 (Hd.out.below hb) hsz
 clear cm_3
 rw [He.out] at hc
 refine (hc).mono ?_
 rintro e v2 ⟨rfl, hv2⟩
 replace kc := kc.below hv2 kc.lt
 replace lc := kc.lt
 replace km := km.below hv2 km.lt
 replace lm := km.lt
 replace kr := kr.below hv2 kr.lt
 replace lr := kr.lt
 replace hb := hb.trans (hv2.mono hsz)
 replace hsz : g ≤ v2.heap.size := Nat.le_trans hsz hv2.size
 clear hv2
 clear hc
 have cm_0 := km.cell 0
 have cc_1 := kc.cell 1
 go_upto_region 11 with (fail)
 clear cm_0 cc_1
 go_wp2_with (first | (refine wpList_load_blk rfl _ (.tmp 2) rfl g rfl _ (client_row kc rfl) ?_))
 refine (ccopied_any ⟨a, r, sq, t, false, S, false, H⟩ (A, n, cp) (A', n', cp') v2 ((HS.out.below hb).more hsz) ((HH.out.below hb).more hsz) hn hn').mono ?_
 rintro e vc ⟨A1, n1, c1, A3, n3, c3, rfl, hp1, hp2, -, hvc⟩
 have oS := Lib.hid hp1
 have oH := Lib.hid hp2
 clear hp1 hp2
 obtain ⟨Z, hZ⟩ : ∃ Z, v2.heap.size = Z := ⟨_, rfl⟩
 rw [hZ] at oS oH
 have hgZ : g + 2 < Z := by omega
 replace kc := kc.below hvc kc.lt
 replace lc := kc.lt
 replace km := km.below hvc km.lt
 replace lm := km.lt
 replace kr := kr.below hvc kr.lt
 replace lr := kr.lt
 replace hb := hb.trans (hvc.mono hsz)
 replace hsz : g ≤ vc.heap.size := Nat.le_trans hsz hvc.size
 clear hvc
 unfold clv clc
 go_upto_region 12 with (fail)
 replace kc := kc.alloc (.cells #[.int .i64 a, .int .i64 r, .int .i64 sq, .string t, .bool false, .slice A1 n1 c1, .bool false, .slice A3 n3 c3] 92)
 replace km := km.alloc (.cells #[.int .i64 a, .int .i64 r, .int .i64 sq, .string t, .bool false, .slice A1 n1 c1, .bool false, .slice A3 n3 c3] 92)
 replace kr := kr.alloc (.cells #[.int .i64 a, .int .i64 r, .int .i64 sq, .string t, .bool false, .slice A1 n1 c1, .bool false, .slice A3 n3 c3] 92)
 have ko := Blk.new vc 92 #[.int .i64 a, .int .i64 r, .int .i64 sq, .string t, .bool false, .slice A1 n1 c1, .bool false, .slice A3 n3 c3]
 replace oS := Lib.hid (World.ownsRow.alloc oS.out (.cells #[.int .i64 a, .int .i64 r, .int .i64 sq, .string t, .bool false, .slice A1 n1 c1, .bool false, .slice A3 n3 c3] 92))
 replace oH := Lib.hid (World.ownsRow.alloc oH.out (.cells #[.int .i64 a, .int .i64 r, .int .i64 sq, .string t, .bool false, .slice A1 n1 c1, .bool false, .slice A3 n3 c3] 92))
 replace hb := hb.alloc hsz (.cells #[.int .i64 a, .int .i64 r, .int .i64 sq, .string t, .bool false, .slice A1 n1 c1, .bool false, .slice A3 n3 c3] 92)
 have hs4 : (vc.alloc (.cells #[.int .i64 a, .int .i64 r, .int .i64 sq, .string t, .bool false, .slice A1 n1 c1, .bool false, .slice A3 n3 c3] 92)).heap.size = vc.heap.size + 1 := by simp
 generalize (vc.alloc (.cells #[.int .i64 a, .int .i64 r, .int .i64 sq, .string t, .bool false, .slice A1 n1 c1, .bool false, .slice A3 n3 c3] 92)) = U4 at *
 obtain ⟨b, heb⟩ : ∃ b, vc.heap.size = b := ⟨_, rfl⟩
 rw [heb] at ko ⊢
 replace hsz : g ≤ U4.heap.size := by omega
 have nq4_c : g < b := by omega
 have nq4_m : g + 1 < b := by omega
 have nq4_r : g + 2 < b := by omega
 have lo := ko.lt
 have co_1 := ko.cell 1
 have fo_1 := ko.frozen 1
 go_upto_region 13 with (fail)
 clear co_1 fo_1
 have ho5 : Only U4 (U4.setCell ⟨b, 1, none⟩ (.int .i64 (r + 1))) (fun k => k = b) := (Only.setCell (S := fun k => k = b) U4 ⟨b, 1, none⟩ (.int .i64 (r + 1)) (by simp))
 replace oS := Lib.hid (own_only oS.out ho5 (fun k hk h_ => by rcases h_ with rfl <;> first | exact own_blk_ne oS.out ko (by decide) hk))
 replace oH := Lib.hid (own_only oH.out ho5 (fun k hk h_ => by rcases h_ with rfl <;> first | exact own_blk_ne oH.out ko (by decide) hk))
 replace kc : Blk (U4.setCell ⟨b, 1, none⟩ (.int .i64 (r + 1))) g 92 #[.int .i64 a, .int .i64 r, .int .i64 sq, .string t, .bool false, .slice A n cp, .bool false, .slice A' n' cp'] := (kc.far (p := ⟨b, 1, none⟩) (by simp only; omega) (.int .i64 (r + 1)))
 replace km : Blk (U4.setCell ⟨b, 1, none⟩ (.int .i64 (r + 1))) (g + 1) 82 #[.int .i64 r, .int .i64 mw, .int .i64 ms, .slice A2 n2 c2] := (km.far (p := ⟨b, 1, none⟩) (by simp only; omega) (.int .i64 (r + 1)))
 replace kr : Blk (U4.setCell ⟨b, 1, none⟩ (.int .i64 (r + 1))) (g + 2) 92 #[.int .i64 0, .int .i64 0, .int .i64 0, .string ⟨#[]⟩, .bool false, .slice none 0 0, .bool false, .slice none 0 0] := (kr.far (p := ⟨b, 1, none⟩) (by simp only; omega) (.int .i64 (r + 1)))
 replace ko : Blk (U4.setCell ⟨b, 1, none⟩ (.int .i64 (r + 1))) b 92 #[.int .i64 a, .int .i64 (r + 1), .int .i64 sq, .string t, .bool false, .slice A1 n1 c1, .bool false, .slice A3 n3 c3] := (ko.set_ 1 (.int .i64 (r + 1)))
 replace hb : Below g w (U4.setCell ⟨b, 1, none⟩ (.int .i64 (r + 1))) := (hb.setCell (p := ⟨b, 1, none⟩) (by simp only; omega) (.int .i64 (r + 1)))
 have hs5 : (U4.setCell ⟨b, 1, none⟩ (.int .i64 (r + 1))).heap.size = U4.heap.size := by simp
 generalize (U4.setCell ⟨b, 1, none⟩ (.int .i64 (r + 1))) = U5 at *
 replace hsz : g ≤ U5.heap.size := by omega
 replace lc := kc.lt
 replace lm := km.lt
 replace lr := kr.lt
 replace lo := ko.lt
 have cc_4 := kc.cell 4
 have cc_0 := kc.cell 0
 have cc_2 := kc.cell 2
 have cm_1 := km.cell 1
 have cm_2 := km.cell 2
 go_upto_region 21 with (fail)
 clear cc_4 cc_0 cc_2 cm_1 cm_2
 have cm_3 := km.cell 3
 go_upto_region 23 with (fail)
 clear cm_3
 have cc_4 := kc.cell 4
 have cc_6 := kc.cell 6
 go_upto_region 31 with (fail)
 clear cc_4 cc_6
 have cc_3 := kc.cell 3
 go_wp2_with fail
 clear cc_3
 have hc := do_any d A2 n2 c2 _ t U5 ((Hd.out.below hb).more hsz) (Nat.le_refl _) (by omega)
 rw [H_dd.out] at hc
 refine (hc).mono ?_
 rintro e v6 ⟨rfl, hv6⟩
 replace kc := kc.below hv6 kc.lt
 replace lc := kc.lt
 replace km := km.below hv6 km.lt
 replace lm := km.lt
 replace kr := kr.below hv6 kr.lt
 replace lr := kr.lt
 replace ko := ko.below hv6 ko.lt
 replace lo := ko.lt
 replace oS := Lib.hid (own_below oS.out hv6)
 replace oH := Lib.hid (own_below oH.out hv6)
 replace hb := hb.trans (hv6.mono hsz)
 replace hsz : g ≤ v6.heap.size := Nat.le_trans hsz hv6.size
 clear hv6
 clear hc
 have co_3 := ko.cell 3
 have fo_3 := ko.frozen 3
 go_upto_region 34 with (fail)
 clear co_3 fo_3
 have ho7 : Only v6 (v6.setCell ⟨b, 3, none⟩ (.string (doS d t))) (fun k => k = b) := (Only.setCell (S := fun k => k = b) v6 ⟨b, 3, none⟩ (.string (doS d t)) (by simp))
 replace oS := Lib.hid (own_only oS.out ho7 (fun k hk h_ => by rcases h_ with rfl <;> first | exact own_blk_ne oS.out ko (by decide) hk))
 replace oH := Lib.hid (own_only oH.out ho7 (fun k hk h_ => by rcases h_ with rfl <;> first | exact own_blk_ne oH.out ko (by decide) hk))
 replace kc : Blk (v6.setCell ⟨b, 3, none⟩ (.string (doS d t))) g 92 #[.int .i64 a, .int .i64 r, .int .i64 sq, .string t, .bool false, .slice A n cp, .bool false, .slice A' n' cp'] := (kc.far (p := ⟨b, 3, none⟩) (by simp only; omega) (.string (doS d t)))
 replace km : Blk (v6.setCell ⟨b, 3, none⟩ (.string (doS d t))) (g + 1) 82 #[.int .i64 r, .int .i64 mw, .int .i64 ms, .slice A2 n2 c2] := (km.far (p := ⟨b, 3, none⟩) (by simp only; omega) (.string (doS d t)))
 replace kr : Blk (v6.setCell ⟨b, 3, none⟩ (.string (doS d t))) (g + 2) 92 #[.int .i64 0, .int .i64 0, .int .i64 0, .string ⟨#[]⟩, .bool false, .slice none 0 0, .bool false, .slice none 0 0] := (kr.far (p := ⟨b, 3, none⟩) (by simp only; omega) (.string (doS d t)))
 replace ko : Blk (v6.setCell ⟨b, 3, none⟩ (.string (doS d t))) b 92 #[.int .i64 a, .int .i64 (r + 1), .int .i64 sq, .string (doS d t), .bool false, .slice A1 n1 c1, .bool false, .slice A3 n3 c3] := (ko.set_ 3 (.string (doS d t)))
 replace hb : Below g w (v6.setCell ⟨b, 3, none⟩ (.string (doS d t))) := (hb.setCell (p := ⟨b, 3, none⟩) (by simp only; omega) (.string (doS d t)))
 have hs7 : (v6.setCell ⟨b, 3, none⟩ (.string (doS d t))).heap.size = v6.heap.size := by simp
 generalize (v6.setCell ⟨b, 3, none⟩ (.string (doS d t))) = U7 at *
 replace hsz : g ≤ U7.heap.size := by omega
 replace lc := kc.lt
 replace lm := km.lt
 replace lr := kr.lt
 replace lo := ko.lt
 go_wp2_with (first | (refine wpList_load_blk rfl _ (.tmp 8) rfl b rfl _ (client_row ko rfl) ?_) | (refine wpList_store_blk rfl _ (.tmp 4) (.tmp 123) rfl (g + 2) _ rfl rfl _ _ kr client_info rfl (by simp [Value.oneCell']) ?_))
 have kz := kr.row #[.int .i64 a, .int .i64 (r + 1), .int .i64 sq, .string (doS d t), .bool false, .slice A1 n1 c1, .bool false, .slice A3 n3 c3]
 have hz := below_setRow hb (g + 2) #[.int .i64 a, .int .i64 (r + 1), .int .i64 sq, .string (doS d t), .bool false, .slice A1 n1 c1, .bool false, .slice A3 n3 c3] (by omega)
 have hzo := Only.setRow U7 (g + 2) #[.int .i64 a, .int .i64 (r + 1), .int .i64 sq, .string (doS d t), .bool false, .slice A1 n1 c1, .bool false, .slice A3 n3 c3]
 have zS := own_only oS.out hzo (fun k hk h_ => by rcases h_ with rfl; exact own_blk_ne oS.out kr (by decide) hk)
 have zH := own_only oH.out hzo (fun k hk h_ => by rcases h_ with rfl; exact own_blk_ne oH.out kr (by decide) hk)
 refine row_end2 rfl rfl rfl rfl (client_row kz rfl) ?_
 exact ⟨(A1, n1, c1), (A3, n3, c3), rfl, own_base zS (by omega), own_base zH (by omega), hbase ▸ hz⟩
theorem cin_tf_ok (a r sq : Int) (t : ByteArray) (f q : Bool) (S H : List Pt) (A A' : Option Addr) (n n' cp cp' : Nat) (mw ms : Int) (d : List Pt) (A2 : Option Addr) (n2 c2 : Nat) (w : World) (hk : CkOk ⟨a, r, sq, t, f, S, q, H⟩)
 (hS : RdP w w.heap.size A n cp S) (hH : RdP w w.heap.size A' n' cp' H) (hd : RdP w w.heap.size A2 n2 c2 d) (hn : n ≤ 4000000) (hn' : n' ≤ 4000000) (hr : r ≠ 2147483647) (he : chk d = 0) (hf : f = true) (hq : q = false) (h1 : mw ≠ a) (m1 : meetE d S = 0) (dd : doE (meetC d S) t = 0) :
 Calls Try.prog 74 #[.agg #[.int .i64 a, .int .i64 r, .int .i64 sq, .string t, .bool f, .slice A n cp, .bool q, .slice A' n' cp'], .agg #[.int .i64 r, .int .i64 mw, .int .i64 ms, .slice A2 n2 c2]] w fun e w' => ∃ s1 h1 : Sl, e = .returned (.tuple #[clv ⟨a, r + 1, sq, doS (meetC d S) t, true, (meetD d S), false, H⟩ s1 h1, .int .i64 0]) ∧ OwnSl w' w.heap.size s1 (meetD d S) ∧ OwnSl w' w.heap.size h1 H ∧ Below w.heap.size w w' := by
 subst hf
 subst hq
 have hmf : (mw == a) = false := by simpa using h1
 have He := Lib.hid he
 clear he h1
 have H_m1 := Lib.hid m1
 clear m1
 have H_dd := Lib.hid dd
 clear dd
 have hs5 := hk.text
 have Hk := Lib.hid hk
 have HS := Lib.hid hS
 have HH := Lib.hid hH
 have Hd := Lib.hid hd
 have hsq0 := hk.seq0
 have hsq1 := hk.seq1
 have hr0 := hk.rev0
 have hr1 := hk.rev1
 simp only at hs5 hsq0 hsq1 hr0 hr1
 have hrf : (r == 2147483647) = false := by simpa using hr
 clear hk hS hH hd hr
 have hb0 : Below w.heap.size w w := Below.refl _ _
 have hb1 := hb0.alloc hb0.size (.cells #[.int .i64 a, .int .i64 r, .int .i64 sq, .string t, .bool true, .slice A n cp, .bool false, .slice A' n' cp'] 92)
 have kc := Blk.new w 92 #[.int .i64 a, .int .i64 r, .int .i64 sq, .string t, .bool true, .slice A n cp, .bool false, .slice A' n' cp']
 have hb2 := hb1.alloc hb1.size (.cells #[.int .i64 r, .int .i64 mw, .int .i64 ms, .slice A2 n2 c2] 82)
 replace kc := kc.alloc (.cells #[.int .i64 r, .int .i64 mw, .int .i64 ms, .slice A2 n2 c2] 82)
 have km := Blk.new (w.alloc (.cells #[.int .i64 a, .int .i64 r, .int .i64 sq, .string t, .bool true, .slice A n cp, .bool false, .slice A' n' cp'] 92)) 82 #[.int .i64 r, .int .i64 mw, .int .i64 ms, .slice A2 n2 c2]
 have hb3 := hb2.alloc hb2.size (.cells #[.int .i64 0, .int .i64 0, .int .i64 0, .string ⟨#[]⟩, .bool false, .slice none 0 0, .bool false, .slice none 0 0] 92)
 replace kc := kc.alloc (.cells #[.int .i64 0, .int .i64 0, .int .i64 0, .string ⟨#[]⟩, .bool false, .slice none 0 0, .bool false, .slice none 0 0] 92)
 replace km := km.alloc (.cells #[.int .i64 0, .int .i64 0, .int .i64 0, .string ⟨#[]⟩, .bool false, .slice none 0 0, .bool false, .slice none 0 0] 92)
 have kr := Blk.new ((w.alloc (.cells #[.int .i64 a, .int .i64 r, .int .i64 sq, .string t, .bool true, .slice A n cp, .bool false, .slice A' n' cp'] 92)).alloc (.cells #[.int .i64 r, .int .i64 mw, .int .i64 ms, .slice A2 n2 c2] 82)) 92 #[.int .i64 0, .int .i64 0, .int .i64 0, .string ⟨#[]⟩, .bool false, .slice none 0 0, .bool false, .slice none 0 0]
 clear hb0 hb1 hb2
 have hb := hb3
 clear hb3
 simp only [World.size_alloc] at kc km kr
 go_enter Try.func74, Try.ntmps74
 go_upto_region 1 with (fail)
 generalize (((w.alloc (.cells #[.int .i64 a, .int .i64 r, .int .i64 sq, .string t, .bool true, .slice A n cp, .bool false, .slice A' n' cp'] 92)).alloc (.cells #[.int .i64 r, .int .i64 mw, .int .i64 ms, .slice A2 n2 c2] 82)).alloc (.cells #[.int .i64 0, .int .i64 0, .int .i64 0, .string ⟨#[]⟩, .bool false, .slice none 0 0, .bool false, .slice none 0 0] 92)) = W0 at *
 obtain ⟨g, hbase⟩ : ∃ g, w.heap.size = g := ⟨_, rfl⟩
 rw [hbase] at hb kc km kr ⊢
 have hsz : g ≤ W0.heap.size := by have := hb.size; omega
 have lc := kc.lt
 have lm := km.lt
 have lr := kr.lt
 have HS := Lib.hid (hbase ▸ HS.out)
 have HH := Lib.hid (hbase ▸ HH.out)
 have Hd := Lib.hid (hbase ▸ Hd.out)
 go_wp2_with (first | (refine wpList_load_blk rfl _ (.tmp 2) rfl g rfl _ (client_row kc rfl) ?_))
 refine (ccheck_good ⟨a, r, sq, t, true, S, false, H⟩ (A, n, cp) (A', n', cp') W0 Hk.out ((HS.out.below hb).more hsz) ((HH.out.below hb).more hsz)).mono ?_
 rintro e v1 ⟨rfl, hv1⟩
 replace kc := kc.below hv1 kc.lt
 replace lc := kc.lt
 replace km := km.below hv1 km.lt
 replace lm := km.lt
 replace kr := kr.below hv1 kr.lt
 replace lr := kr.lt
 replace hb := hb.trans (hv1.mono hsz)
 replace hsz : g ≤ v1.heap.size := Nat.le_trans hsz hv1.size
 clear hv1
 go_upto_region 4 with (fail)
 have cm_3 := km.cell 3
 go_wp2_with fail
 have hc := chk_any d A2 n2 c2 g v1 (Hd.out.below hb) hsz
 clear cm_3
 rw [He.out] at hc
 refine (hc).mono ?_
 rintro e v2 ⟨rfl, hv2⟩
 replace kc := kc.below hv2 kc.lt
 replace lc := kc.lt
 replace km := km.below hv2 km.lt
 replace lm := km.lt
 replace kr := kr.below hv2 kr.lt
 replace lr := kr.lt
 replace hb := hb.trans (hv2.mono hsz)
 replace hsz : g ≤ v2.heap.size := Nat.le_trans hsz hv2.size
 clear hv2
 clear hc
 have cm_0 := km.cell 0
 have cc_1 := kc.cell 1
 go_upto_region 11 with (fail)
 clear cm_0 cc_1
 go_wp2_with (first | (refine wpList_load_blk rfl _ (.tmp 2) rfl g rfl _ (client_row kc rfl) ?_))
 refine (ccopied_any ⟨a, r, sq, t, true, S, false, H⟩ (A, n, cp) (A', n', cp') v2 ((HS.out.below hb).more hsz) ((HH.out.below hb).more hsz) hn hn').mono ?_
 rintro e vc ⟨A1, n1, c1, A3, n3, c3, rfl, hp1, hp2, -, hvc⟩
 have oS := Lib.hid hp1
 have oH := Lib.hid hp2
 clear hp1 hp2
 obtain ⟨Z, hZ⟩ : ∃ Z, v2.heap.size = Z := ⟨_, rfl⟩
 rw [hZ] at oS oH
 have hgZ : g + 2 < Z := by omega
 replace kc := kc.below hvc kc.lt
 replace lc := kc.lt
 replace km := km.below hvc km.lt
 replace lm := km.lt
 replace kr := kr.below hvc kr.lt
 replace lr := kr.lt
 replace hb := hb.trans (hvc.mono hsz)
 replace hsz : g ≤ vc.heap.size := Nat.le_trans hsz hvc.size
 clear hvc
 unfold clv clc
 go_upto_region 12 with (fail)
 replace kc := kc.alloc (.cells #[.int .i64 a, .int .i64 r, .int .i64 sq, .string t, .bool true, .slice A1 n1 c1, .bool false, .slice A3 n3 c3] 92)
 replace km := km.alloc (.cells #[.int .i64 a, .int .i64 r, .int .i64 sq, .string t, .bool true, .slice A1 n1 c1, .bool false, .slice A3 n3 c3] 92)
 replace kr := kr.alloc (.cells #[.int .i64 a, .int .i64 r, .int .i64 sq, .string t, .bool true, .slice A1 n1 c1, .bool false, .slice A3 n3 c3] 92)
 have ko := Blk.new vc 92 #[.int .i64 a, .int .i64 r, .int .i64 sq, .string t, .bool true, .slice A1 n1 c1, .bool false, .slice A3 n3 c3]
 replace oS := Lib.hid (World.ownsRow.alloc oS.out (.cells #[.int .i64 a, .int .i64 r, .int .i64 sq, .string t, .bool true, .slice A1 n1 c1, .bool false, .slice A3 n3 c3] 92))
 replace oH := Lib.hid (World.ownsRow.alloc oH.out (.cells #[.int .i64 a, .int .i64 r, .int .i64 sq, .string t, .bool true, .slice A1 n1 c1, .bool false, .slice A3 n3 c3] 92))
 replace hb := hb.alloc hsz (.cells #[.int .i64 a, .int .i64 r, .int .i64 sq, .string t, .bool true, .slice A1 n1 c1, .bool false, .slice A3 n3 c3] 92)
 have hs4 : (vc.alloc (.cells #[.int .i64 a, .int .i64 r, .int .i64 sq, .string t, .bool true, .slice A1 n1 c1, .bool false, .slice A3 n3 c3] 92)).heap.size = vc.heap.size + 1 := by simp
 generalize (vc.alloc (.cells #[.int .i64 a, .int .i64 r, .int .i64 sq, .string t, .bool true, .slice A1 n1 c1, .bool false, .slice A3 n3 c3] 92)) = U4 at *
 obtain ⟨b, heb⟩ : ∃ b, vc.heap.size = b := ⟨_, rfl⟩
 rw [heb] at ko ⊢
 replace hsz : g ≤ U4.heap.size := by omega
 have nq4_c : g < b := by omega
 have nq4_m : g + 1 < b := by omega
 have nq4_r : g + 2 < b := by omega
 have lo := ko.lt
 have co_1 := ko.cell 1
 have fo_1 := ko.frozen 1
 go_upto_region 13 with (fail)
 clear co_1 fo_1
 have ho5 : Only U4 (U4.setCell ⟨b, 1, none⟩ (.int .i64 (r + 1))) (fun k => k = b) := (Only.setCell (S := fun k => k = b) U4 ⟨b, 1, none⟩ (.int .i64 (r + 1)) (by simp))
 replace oS := Lib.hid (own_only oS.out ho5 (fun k hk h_ => by rcases h_ with rfl <;> first | exact own_blk_ne oS.out ko (by decide) hk))
 replace oH := Lib.hid (own_only oH.out ho5 (fun k hk h_ => by rcases h_ with rfl <;> first | exact own_blk_ne oH.out ko (by decide) hk))
 replace kc : Blk (U4.setCell ⟨b, 1, none⟩ (.int .i64 (r + 1))) g 92 #[.int .i64 a, .int .i64 r, .int .i64 sq, .string t, .bool true, .slice A n cp, .bool false, .slice A' n' cp'] := (kc.far (p := ⟨b, 1, none⟩) (by simp only; omega) (.int .i64 (r + 1)))
 replace km : Blk (U4.setCell ⟨b, 1, none⟩ (.int .i64 (r + 1))) (g + 1) 82 #[.int .i64 r, .int .i64 mw, .int .i64 ms, .slice A2 n2 c2] := (km.far (p := ⟨b, 1, none⟩) (by simp only; omega) (.int .i64 (r + 1)))
 replace kr : Blk (U4.setCell ⟨b, 1, none⟩ (.int .i64 (r + 1))) (g + 2) 92 #[.int .i64 0, .int .i64 0, .int .i64 0, .string ⟨#[]⟩, .bool false, .slice none 0 0, .bool false, .slice none 0 0] := (kr.far (p := ⟨b, 1, none⟩) (by simp only; omega) (.int .i64 (r + 1)))
 replace ko : Blk (U4.setCell ⟨b, 1, none⟩ (.int .i64 (r + 1))) b 92 #[.int .i64 a, .int .i64 (r + 1), .int .i64 sq, .string t, .bool true, .slice A1 n1 c1, .bool false, .slice A3 n3 c3] := (ko.set_ 1 (.int .i64 (r + 1)))
 replace hb : Below g w (U4.setCell ⟨b, 1, none⟩ (.int .i64 (r + 1))) := (hb.setCell (p := ⟨b, 1, none⟩) (by simp only; omega) (.int .i64 (r + 1)))
 have hs5 : (U4.setCell ⟨b, 1, none⟩ (.int .i64 (r + 1))).heap.size = U4.heap.size := by simp
 generalize (U4.setCell ⟨b, 1, none⟩ (.int .i64 (r + 1))) = U5 at *
 replace hsz : g ≤ U5.heap.size := by omega
 replace lc := kc.lt
 replace lm := km.lt
 replace lr := kr.lt
 replace lo := ko.lt
 have cc_4 := kc.cell 4
 have cc_0 := kc.cell 0
 have cc_2 := kc.cell 2
 have cm_1 := km.cell 1
 have cm_2 := km.cell 2
 go_upto_region 21 with (fail)
 clear cc_4 cc_0 cc_2 cm_1 cm_2
 have cm_3 := km.cell 3
 go_upto_region 23 with (fail)
 clear cm_3
 have cc_4 := kc.cell 4
 have cc_5 := kc.cell 5
 go_upto_region 24 with (fail)
 go_wp2_with fail
 clear cc_4 cc_5
 obtain ⟨Nx1, hNx1⟩ : ∃ N, (meetC d S).length = N := ⟨_, rfl⟩
 obtain ⟨Nx2, hNx2⟩ : ∃ N, (meetD d S).length = N := ⟨_, rfl⟩
 have HNx1 := Lib.hid hNx1
 have HNx2 := Lib.hid hNx2
 clear hNx1 hNx2
 have hc := meet_any d S A2 A n2 n c2 cp U5 ((Hd.out.below hb).more hsz) ((HS.out.below hb).more hsz)
 rw [H_m1.out] at hc
 refine hc.mono ?_
 clear hc
 rintro e vmx1 ⟨xx1, xx2, rfl, qx1, qx2, -, hvm⟩
 obtain ⟨Ax1, cx1, rfl⟩ := qx1.form_ (n := Nx1) HNx1.out
 obtain ⟨Ax2, cx2, rfl⟩ := qx2.form_ (n := Nx2) HNx2.out
 obtain ⟨Zx1, hZx1⟩ : ∃ Z, U5.heap.size = Z := ⟨_, rfl⟩
 rw [hZx1] at qx1 qx2
 have hgZx1 : g + 2 < Zx1 := by omega
 replace kc := kc.below hvm kc.lt
 replace lc := kc.lt
 replace km := km.below hvm km.lt
 replace lm := km.lt
 replace kr := kr.below hvm kr.lt
 replace lr := kr.lt
 replace ko := ko.below hvm ko.lt
 replace lo := ko.lt
 replace oS := Lib.hid (own_below oS.out hvm)
 replace oH := Lib.hid (own_below oH.out hvm)
 replace hb := hb.trans (hvm.mono hsz)
 replace hsz : g ≤ vmx1.heap.size := Nat.le_trans hsz hvm.size
 clear hvm
 have ox1 := Lib.hid qx1
 clear qx1
 have ox2 := Lib.hid qx2
 clear qx2
 have co_5 := ko.cell 5
 have fo_5 := ko.frozen 5
 go_upto_region 27 with (fail)
 clear co_5 fo_5
 have ho6 : Only vmx1 (vmx1.setCell ⟨b, 5, none⟩ (.slice Ax2 Nx2 cx2)) (fun k => k = b) := (Only.setCell (S := fun k => k = b) vmx1 ⟨b, 5, none⟩ (.slice Ax2 Nx2 cx2) (by simp))
 replace oS := Lib.hid (own_only oS.out ho6 (fun k hk h_ => by rcases h_ with rfl <;> first | exact own_blk_ne oS.out ko (by decide) hk))
 replace oH := Lib.hid (own_only oH.out ho6 (fun k hk h_ => by rcases h_ with rfl <;> first | exact own_blk_ne oH.out ko (by decide) hk))
 replace ox1 := Lib.hid (own_only ox1.out ho6 (fun k hk h_ => by rcases h_ with rfl <;> first | exact own_blk_ne ox1.out ko (by decide) hk))
 replace ox2 := Lib.hid (own_only ox2.out ho6 (fun k hk h_ => by rcases h_ with rfl <;> first | exact own_blk_ne ox2.out ko (by decide) hk))
 replace kc : Blk (vmx1.setCell ⟨b, 5, none⟩ (.slice Ax2 Nx2 cx2)) g 92 #[.int .i64 a, .int .i64 r, .int .i64 sq, .string t, .bool true, .slice A n cp, .bool false, .slice A' n' cp'] := (kc.far (p := ⟨b, 5, none⟩) (by simp only; omega) (.slice Ax2 Nx2 cx2))
 replace km : Blk (vmx1.setCell ⟨b, 5, none⟩ (.slice Ax2 Nx2 cx2)) (g + 1) 82 #[.int .i64 r, .int .i64 mw, .int .i64 ms, .slice A2 n2 c2] := (km.far (p := ⟨b, 5, none⟩) (by simp only; omega) (.slice Ax2 Nx2 cx2))
 replace kr : Blk (vmx1.setCell ⟨b, 5, none⟩ (.slice Ax2 Nx2 cx2)) (g + 2) 92 #[.int .i64 0, .int .i64 0, .int .i64 0, .string ⟨#[]⟩, .bool false, .slice none 0 0, .bool false, .slice none 0 0] := (kr.far (p := ⟨b, 5, none⟩) (by simp only; omega) (.slice Ax2 Nx2 cx2))
 replace ko : Blk (vmx1.setCell ⟨b, 5, none⟩ (.slice Ax2 Nx2 cx2)) b 92 #[.int .i64 a, .int .i64 (r + 1), .int .i64 sq, .string t, .bool true, .slice Ax2 Nx2 cx2, .bool false, .slice A3 n3 c3] := (ko.set_ 5 (.slice Ax2 Nx2 cx2))
 replace hb : Below g w (vmx1.setCell ⟨b, 5, none⟩ (.slice Ax2 Nx2 cx2)) := (hb.setCell (p := ⟨b, 5, none⟩) (by simp only; omega) (.slice Ax2 Nx2 cx2))
 have hs6 : (vmx1.setCell ⟨b, 5, none⟩ (.slice Ax2 Nx2 cx2)).heap.size = vmx1.heap.size := by simp
 generalize (vmx1.setCell ⟨b, 5, none⟩ (.slice Ax2 Nx2 cx2)) = U6 at *
 replace hsz : g ≤ U6.heap.size := by omega
 replace lc := kc.lt
 replace lm := km.lt
 replace lr := kr.lt
 replace lo := ko.lt
 have cc_6 := kc.cell 6
 go_upto_region 31 with (fail)
 clear cc_6
 have cc_3 := kc.cell 3
 go_wp2_with fail
 clear cc_3
 have hc := do_any (meetC d S) Ax1 Nx1 cx1 _ t U6 (rdS_ ox1.out (small_of (small_meetC d S)).2) (Nat.le_refl _) (by omega)
 rw [H_dd.out] at hc
 refine (hc).mono ?_
 rintro e v7 ⟨rfl, hv7⟩
 replace kc := kc.below hv7 kc.lt
 replace lc := kc.lt
 replace km := km.below hv7 km.lt
 replace lm := km.lt
 replace kr := kr.below hv7 kr.lt
 replace lr := kr.lt
 replace ko := ko.below hv7 ko.lt
 replace lo := ko.lt
 replace oS := Lib.hid (own_below oS.out hv7)
 replace oH := Lib.hid (own_below oH.out hv7)
 replace ox1 := Lib.hid (own_below ox1.out hv7)
 replace ox2 := Lib.hid (own_below ox2.out hv7)
 replace hb := hb.trans (hv7.mono hsz)
 replace hsz : g ≤ v7.heap.size := Nat.le_trans hsz hv7.size
 clear hv7
 clear hc
 have co_3 := ko.cell 3
 have fo_3 := ko.frozen 3
 go_upto_region 34 with (fail)
 clear co_3 fo_3
 have ho8 : Only v7 (v7.setCell ⟨b, 3, none⟩ (.string (doS (meetC d S) t))) (fun k => k = b) := (Only.setCell (S := fun k => k = b) v7 ⟨b, 3, none⟩ (.string (doS (meetC d S) t)) (by simp))
 replace oS := Lib.hid (own_only oS.out ho8 (fun k hk h_ => by rcases h_ with rfl <;> first | exact own_blk_ne oS.out ko (by decide) hk))
 replace oH := Lib.hid (own_only oH.out ho8 (fun k hk h_ => by rcases h_ with rfl <;> first | exact own_blk_ne oH.out ko (by decide) hk))
 replace ox1 := Lib.hid (own_only ox1.out ho8 (fun k hk h_ => by rcases h_ with rfl <;> first | exact own_blk_ne ox1.out ko (by decide) hk))
 replace ox2 := Lib.hid (own_only ox2.out ho8 (fun k hk h_ => by rcases h_ with rfl <;> first | exact own_blk_ne ox2.out ko (by decide) hk))
 replace kc : Blk (v7.setCell ⟨b, 3, none⟩ (.string (doS (meetC d S) t))) g 92 #[.int .i64 a, .int .i64 r, .int .i64 sq, .string t, .bool true, .slice A n cp, .bool false, .slice A' n' cp'] := (kc.far (p := ⟨b, 3, none⟩) (by simp only; omega) (.string (doS (meetC d S) t)))
 replace km : Blk (v7.setCell ⟨b, 3, none⟩ (.string (doS (meetC d S) t))) (g + 1) 82 #[.int .i64 r, .int .i64 mw, .int .i64 ms, .slice A2 n2 c2] := (km.far (p := ⟨b, 3, none⟩) (by simp only; omega) (.string (doS (meetC d S) t)))
 replace kr : Blk (v7.setCell ⟨b, 3, none⟩ (.string (doS (meetC d S) t))) (g + 2) 92 #[.int .i64 0, .int .i64 0, .int .i64 0, .string ⟨#[]⟩, .bool false, .slice none 0 0, .bool false, .slice none 0 0] := (kr.far (p := ⟨b, 3, none⟩) (by simp only; omega) (.string (doS (meetC d S) t)))
 replace ko : Blk (v7.setCell ⟨b, 3, none⟩ (.string (doS (meetC d S) t))) b 92 #[.int .i64 a, .int .i64 (r + 1), .int .i64 sq, .string (doS (meetC d S) t), .bool true, .slice Ax2 Nx2 cx2, .bool false, .slice A3 n3 c3] := (ko.set_ 3 (.string (doS (meetC d S) t)))
 replace hb : Below g w (v7.setCell ⟨b, 3, none⟩ (.string (doS (meetC d S) t))) := (hb.setCell (p := ⟨b, 3, none⟩) (by simp only; omega) (.string (doS (meetC d S) t)))
 have hs8 : (v7.setCell ⟨b, 3, none⟩ (.string (doS (meetC d S) t))).heap.size = v7.heap.size := by simp
 generalize (v7.setCell ⟨b, 3, none⟩ (.string (doS (meetC d S) t))) = U8 at *
 replace hsz : g ≤ U8.heap.size := by omega
 replace lc := kc.lt
 replace lm := km.lt
 replace lr := kr.lt
 replace lo := ko.lt
 go_wp2_with (first | (refine wpList_load_blk rfl _ (.tmp 8) rfl b rfl _ (client_row ko rfl) ?_) | (refine wpList_store_blk rfl _ (.tmp 4) (.tmp 123) rfl (g + 2) _ rfl rfl _ _ kr client_info rfl (by simp [Value.oneCell']) ?_))
 have kz := kr.row #[.int .i64 a, .int .i64 (r + 1), .int .i64 sq, .string (doS (meetC d S) t), .bool true, .slice Ax2 Nx2 cx2, .bool false, .slice A3 n3 c3]
 have hz := below_setRow hb (g + 2) #[.int .i64 a, .int .i64 (r + 1), .int .i64 sq, .string (doS (meetC d S) t), .bool true, .slice Ax2 Nx2 cx2, .bool false, .slice A3 n3 c3] (by omega)
 have hzo := Only.setRow U8 (g + 2) #[.int .i64 a, .int .i64 (r + 1), .int .i64 sq, .string (doS (meetC d S) t), .bool true, .slice Ax2 Nx2 cx2, .bool false, .slice A3 n3 c3]
 have zS := own_only oS.out hzo (fun k hk h_ => by rcases h_ with rfl; exact own_blk_ne oS.out kr (by decide) hk)
 have zH := own_only oH.out hzo (fun k hk h_ => by rcases h_ with rfl; exact own_blk_ne oH.out kr (by decide) hk)
 have zx1 := own_only ox1.out hzo (fun k hk h_ => by rcases h_ with rfl; exact own_blk_ne ox1.out kr (by decide) hk)
 have zx2 := own_only ox2.out hzo (fun k hk h_ => by rcases h_ with rfl; exact own_blk_ne ox2.out kr (by decide) hk)
 refine row_end2 rfl rfl rfl rfl (client_row kz rfl) ?_
 exact ⟨(Ax2, Nx2, cx2), (A3, n3, c3), rfl, own_base zx2 (by omega), own_base zH (by omega), hbase ▸ hz⟩
theorem cin_tt_ok (a r sq : Int) (t : ByteArray) (f q : Bool) (S H : List Pt) (A A' : Option Addr) (n n' cp cp' : Nat) (mw ms : Int) (d : List Pt) (A2 : Option Addr) (n2 c2 : Nat) (w : World) (hk : CkOk ⟨a, r, sq, t, f, S, q, H⟩)
 (hS : RdP w w.heap.size A n cp S) (hH : RdP w w.heap.size A' n' cp' H) (hd : RdP w w.heap.size A2 n2 c2 d) (hn : n ≤ 4000000) (hn' : n' ≤ 4000000) (hr : r ≠ 2147483647) (he : chk d = 0) (hf : f = true) (hq : q = true) (h1 : mw ≠ a) (m1 : meetE d S = 0) (m2 : meetE (meetC d S) H = 0) (dd : doE (meetC (meetC d S) H) t = 0) :
 Calls Try.prog 74 #[.agg #[.int .i64 a, .int .i64 r, .int .i64 sq, .string t, .bool f, .slice A n cp, .bool q, .slice A' n' cp'], .agg #[.int .i64 r, .int .i64 mw, .int .i64 ms, .slice A2 n2 c2]] w fun e w' => ∃ s1 h1 : Sl, e = .returned (.tuple #[clv ⟨a, r + 1, sq, doS (meetC (meetC d S) H) t, true, (meetD d S), true, (meetD (meetC d S) H)⟩ s1 h1, .int .i64 0]) ∧ OwnSl w' w.heap.size s1 (meetD d S) ∧ OwnSl w' w.heap.size h1 (meetD (meetC d S) H) ∧ Below w.heap.size w w' := by
 subst hf
 subst hq
 have hmf : (mw == a) = false := by simpa using h1
 have He := Lib.hid he
 clear he h1
 have H_m1 := Lib.hid m1
 clear m1
 have H_m2 := Lib.hid m2
 clear m2
 have H_dd := Lib.hid dd
 clear dd
 have hs5 := hk.text
 have Hk := Lib.hid hk
 have HS := Lib.hid hS
 have HH := Lib.hid hH
 have Hd := Lib.hid hd
 have hsq0 := hk.seq0
 have hsq1 := hk.seq1
 have hr0 := hk.rev0
 have hr1 := hk.rev1
 simp only at hs5 hsq0 hsq1 hr0 hr1
 have hrf : (r == 2147483647) = false := by simpa using hr
 clear hk hS hH hd hr
 have hb0 : Below w.heap.size w w := Below.refl _ _
 have hb1 := hb0.alloc hb0.size (.cells #[.int .i64 a, .int .i64 r, .int .i64 sq, .string t, .bool true, .slice A n cp, .bool true, .slice A' n' cp'] 92)
 have kc := Blk.new w 92 #[.int .i64 a, .int .i64 r, .int .i64 sq, .string t, .bool true, .slice A n cp, .bool true, .slice A' n' cp']
 have hb2 := hb1.alloc hb1.size (.cells #[.int .i64 r, .int .i64 mw, .int .i64 ms, .slice A2 n2 c2] 82)
 replace kc := kc.alloc (.cells #[.int .i64 r, .int .i64 mw, .int .i64 ms, .slice A2 n2 c2] 82)
 have km := Blk.new (w.alloc (.cells #[.int .i64 a, .int .i64 r, .int .i64 sq, .string t, .bool true, .slice A n cp, .bool true, .slice A' n' cp'] 92)) 82 #[.int .i64 r, .int .i64 mw, .int .i64 ms, .slice A2 n2 c2]
 have hb3 := hb2.alloc hb2.size (.cells #[.int .i64 0, .int .i64 0, .int .i64 0, .string ⟨#[]⟩, .bool false, .slice none 0 0, .bool false, .slice none 0 0] 92)
 replace kc := kc.alloc (.cells #[.int .i64 0, .int .i64 0, .int .i64 0, .string ⟨#[]⟩, .bool false, .slice none 0 0, .bool false, .slice none 0 0] 92)
 replace km := km.alloc (.cells #[.int .i64 0, .int .i64 0, .int .i64 0, .string ⟨#[]⟩, .bool false, .slice none 0 0, .bool false, .slice none 0 0] 92)
 have kr := Blk.new ((w.alloc (.cells #[.int .i64 a, .int .i64 r, .int .i64 sq, .string t, .bool true, .slice A n cp, .bool true, .slice A' n' cp'] 92)).alloc (.cells #[.int .i64 r, .int .i64 mw, .int .i64 ms, .slice A2 n2 c2] 82)) 92 #[.int .i64 0, .int .i64 0, .int .i64 0, .string ⟨#[]⟩, .bool false, .slice none 0 0, .bool false, .slice none 0 0]
 clear hb0 hb1 hb2
 have hb := hb3
 clear hb3
 simp only [World.size_alloc] at kc km kr
 go_enter Try.func74, Try.ntmps74
 go_upto_region 1 with (fail)
 generalize (((w.alloc (.cells #[.int .i64 a, .int .i64 r, .int .i64 sq, .string t, .bool true, .slice A n cp, .bool true, .slice A' n' cp'] 92)).alloc (.cells #[.int .i64 r, .int .i64 mw, .int .i64 ms, .slice A2 n2 c2] 82)).alloc (.cells #[.int .i64 0, .int .i64 0, .int .i64 0, .string ⟨#[]⟩, .bool false, .slice none 0 0, .bool false, .slice none 0 0] 92)) = W0 at *
 obtain ⟨g, hbase⟩ : ∃ g, w.heap.size = g := ⟨_, rfl⟩
 rw [hbase] at hb kc km kr ⊢
 have hsz : g ≤ W0.heap.size := by have := hb.size; omega
 have lc := kc.lt
 have lm := km.lt
 have lr := kr.lt
 have HS := Lib.hid (hbase ▸ HS.out)
 have HH := Lib.hid (hbase ▸ HH.out)
 have Hd := Lib.hid (hbase ▸ Hd.out)
 go_wp2_with (first | (refine wpList_load_blk rfl _ (.tmp 2) rfl g rfl _ (client_row kc rfl) ?_))
 refine (ccheck_good ⟨a, r, sq, t, true, S, true, H⟩ (A, n, cp) (A', n', cp') W0 Hk.out ((HS.out.below hb).more hsz) ((HH.out.below hb).more hsz)).mono ?_
 rintro e v1 ⟨rfl, hv1⟩
 replace kc := kc.below hv1 kc.lt
 replace lc := kc.lt
 replace km := km.below hv1 km.lt
 replace lm := km.lt
 replace kr := kr.below hv1 kr.lt
 replace lr := kr.lt
 replace hb := hb.trans (hv1.mono hsz)
 replace hsz : g ≤ v1.heap.size := Nat.le_trans hsz hv1.size
 clear hv1
 go_upto_region 4 with (fail)
 have cm_3 := km.cell 3
 go_wp2_with fail
 have hc := chk_any d A2 n2 c2 g v1 (Hd.out.below hb) hsz
 clear cm_3
 rw [He.out] at hc
 refine (hc).mono ?_
 rintro e v2 ⟨rfl, hv2⟩
 replace kc := kc.below hv2 kc.lt
 replace lc := kc.lt
 replace km := km.below hv2 km.lt
 replace lm := km.lt
 replace kr := kr.below hv2 kr.lt
 replace lr := kr.lt
 replace hb := hb.trans (hv2.mono hsz)
 replace hsz : g ≤ v2.heap.size := Nat.le_trans hsz hv2.size
 clear hv2
 clear hc
 have cm_0 := km.cell 0
 have cc_1 := kc.cell 1
 go_upto_region 11 with (fail)
 clear cm_0 cc_1
 go_wp2_with (first | (refine wpList_load_blk rfl _ (.tmp 2) rfl g rfl _ (client_row kc rfl) ?_))
 refine (ccopied_any ⟨a, r, sq, t, true, S, true, H⟩ (A, n, cp) (A', n', cp') v2 ((HS.out.below hb).more hsz) ((HH.out.below hb).more hsz) hn hn').mono ?_
 rintro e vc ⟨A1, n1, c1, A3, n3, c3, rfl, hp1, hp2, -, hvc⟩
 have oS := Lib.hid hp1
 have oH := Lib.hid hp2
 clear hp1 hp2
 obtain ⟨Z, hZ⟩ : ∃ Z, v2.heap.size = Z := ⟨_, rfl⟩
 rw [hZ] at oS oH
 have hgZ : g + 2 < Z := by omega
 replace kc := kc.below hvc kc.lt
 replace lc := kc.lt
 replace km := km.below hvc km.lt
 replace lm := km.lt
 replace kr := kr.below hvc kr.lt
 replace lr := kr.lt
 replace hb := hb.trans (hvc.mono hsz)
 replace hsz : g ≤ vc.heap.size := Nat.le_trans hsz hvc.size
 clear hvc
 unfold clv clc
 go_upto_region 12 with (fail)
 replace kc := kc.alloc (.cells #[.int .i64 a, .int .i64 r, .int .i64 sq, .string t, .bool true, .slice A1 n1 c1, .bool true, .slice A3 n3 c3] 92)
 replace km := km.alloc (.cells #[.int .i64 a, .int .i64 r, .int .i64 sq, .string t, .bool true, .slice A1 n1 c1, .bool true, .slice A3 n3 c3] 92)
 replace kr := kr.alloc (.cells #[.int .i64 a, .int .i64 r, .int .i64 sq, .string t, .bool true, .slice A1 n1 c1, .bool true, .slice A3 n3 c3] 92)
 have ko := Blk.new vc 92 #[.int .i64 a, .int .i64 r, .int .i64 sq, .string t, .bool true, .slice A1 n1 c1, .bool true, .slice A3 n3 c3]
 replace oS := Lib.hid (World.ownsRow.alloc oS.out (.cells #[.int .i64 a, .int .i64 r, .int .i64 sq, .string t, .bool true, .slice A1 n1 c1, .bool true, .slice A3 n3 c3] 92))
 replace oH := Lib.hid (World.ownsRow.alloc oH.out (.cells #[.int .i64 a, .int .i64 r, .int .i64 sq, .string t, .bool true, .slice A1 n1 c1, .bool true, .slice A3 n3 c3] 92))
 replace hb := hb.alloc hsz (.cells #[.int .i64 a, .int .i64 r, .int .i64 sq, .string t, .bool true, .slice A1 n1 c1, .bool true, .slice A3 n3 c3] 92)
 have hs4 : (vc.alloc (.cells #[.int .i64 a, .int .i64 r, .int .i64 sq, .string t, .bool true, .slice A1 n1 c1, .bool true, .slice A3 n3 c3] 92)).heap.size = vc.heap.size + 1 := by simp
 generalize (vc.alloc (.cells #[.int .i64 a, .int .i64 r, .int .i64 sq, .string t, .bool true, .slice A1 n1 c1, .bool true, .slice A3 n3 c3] 92)) = U4 at *
 obtain ⟨b, heb⟩ : ∃ b, vc.heap.size = b := ⟨_, rfl⟩
 rw [heb] at ko ⊢
 replace hsz : g ≤ U4.heap.size := by omega
 have nq4_c : g < b := by omega
 have nq4_m : g + 1 < b := by omega
 have nq4_r : g + 2 < b := by omega
 have lo := ko.lt
 have co_1 := ko.cell 1
 have fo_1 := ko.frozen 1
 go_upto_region 13 with (fail)
 clear co_1 fo_1
 have ho5 : Only U4 (U4.setCell ⟨b, 1, none⟩ (.int .i64 (r + 1))) (fun k => k = b) := (Only.setCell (S := fun k => k = b) U4 ⟨b, 1, none⟩ (.int .i64 (r + 1)) (by simp))
 replace oS := Lib.hid (own_only oS.out ho5 (fun k hk h_ => by rcases h_ with rfl <;> first | exact own_blk_ne oS.out ko (by decide) hk))
 replace oH := Lib.hid (own_only oH.out ho5 (fun k hk h_ => by rcases h_ with rfl <;> first | exact own_blk_ne oH.out ko (by decide) hk))
 replace kc : Blk (U4.setCell ⟨b, 1, none⟩ (.int .i64 (r + 1))) g 92 #[.int .i64 a, .int .i64 r, .int .i64 sq, .string t, .bool true, .slice A n cp, .bool true, .slice A' n' cp'] := (kc.far (p := ⟨b, 1, none⟩) (by simp only; omega) (.int .i64 (r + 1)))
 replace km : Blk (U4.setCell ⟨b, 1, none⟩ (.int .i64 (r + 1))) (g + 1) 82 #[.int .i64 r, .int .i64 mw, .int .i64 ms, .slice A2 n2 c2] := (km.far (p := ⟨b, 1, none⟩) (by simp only; omega) (.int .i64 (r + 1)))
 replace kr : Blk (U4.setCell ⟨b, 1, none⟩ (.int .i64 (r + 1))) (g + 2) 92 #[.int .i64 0, .int .i64 0, .int .i64 0, .string ⟨#[]⟩, .bool false, .slice none 0 0, .bool false, .slice none 0 0] := (kr.far (p := ⟨b, 1, none⟩) (by simp only; omega) (.int .i64 (r + 1)))
 replace ko : Blk (U4.setCell ⟨b, 1, none⟩ (.int .i64 (r + 1))) b 92 #[.int .i64 a, .int .i64 (r + 1), .int .i64 sq, .string t, .bool true, .slice A1 n1 c1, .bool true, .slice A3 n3 c3] := (ko.set_ 1 (.int .i64 (r + 1)))
 replace hb : Below g w (U4.setCell ⟨b, 1, none⟩ (.int .i64 (r + 1))) := (hb.setCell (p := ⟨b, 1, none⟩) (by simp only; omega) (.int .i64 (r + 1)))
 have hs5 : (U4.setCell ⟨b, 1, none⟩ (.int .i64 (r + 1))).heap.size = U4.heap.size := by simp
 generalize (U4.setCell ⟨b, 1, none⟩ (.int .i64 (r + 1))) = U5 at *
 replace hsz : g ≤ U5.heap.size := by omega
 replace lc := kc.lt
 replace lm := km.lt
 replace lr := kr.lt
 replace lo := ko.lt
 have cc_4 := kc.cell 4
 have cc_0 := kc.cell 0
 have cc_2 := kc.cell 2
 have cm_1 := km.cell 1
 have cm_2 := km.cell 2
 go_upto_region 21 with (fail)
 clear cc_4 cc_0 cc_2 cm_1 cm_2
 have cm_3 := km.cell 3
 go_upto_region 23 with (fail)
 clear cm_3
 have cc_4 := kc.cell 4
 have cc_5 := kc.cell 5
 go_upto_region 24 with (fail)
 go_wp2_with fail
 clear cc_4 cc_5
 obtain ⟨Nx1, hNx1⟩ : ∃ N, (meetC d S).length = N := ⟨_, rfl⟩
 obtain ⟨Nx2, hNx2⟩ : ∃ N, (meetD d S).length = N := ⟨_, rfl⟩
 have HNx1 := Lib.hid hNx1
 have HNx2 := Lib.hid hNx2
 clear hNx1 hNx2
 have hc := meet_any d S A2 A n2 n c2 cp U5 ((Hd.out.below hb).more hsz) ((HS.out.below hb).more hsz)
 rw [H_m1.out] at hc
 refine hc.mono ?_
 clear hc
 rintro e vmx1 ⟨xx1, xx2, rfl, qx1, qx2, -, hvm⟩
 obtain ⟨Ax1, cx1, rfl⟩ := qx1.form_ (n := Nx1) HNx1.out
 obtain ⟨Ax2, cx2, rfl⟩ := qx2.form_ (n := Nx2) HNx2.out
 obtain ⟨Zx1, hZx1⟩ : ∃ Z, U5.heap.size = Z := ⟨_, rfl⟩
 rw [hZx1] at qx1 qx2
 have hgZx1 : g + 2 < Zx1 := by omega
 replace kc := kc.below hvm kc.lt
 replace lc := kc.lt
 replace km := km.below hvm km.lt
 replace lm := km.lt
 replace kr := kr.below hvm kr.lt
 replace lr := kr.lt
 replace ko := ko.below hvm ko.lt
 replace lo := ko.lt
 replace oS := Lib.hid (own_below oS.out hvm)
 replace oH := Lib.hid (own_below oH.out hvm)
 replace hb := hb.trans (hvm.mono hsz)
 replace hsz : g ≤ vmx1.heap.size := Nat.le_trans hsz hvm.size
 clear hvm
 have ox1 := Lib.hid qx1
 clear qx1
 have ox2 := Lib.hid qx2
 clear qx2
 have co_5 := ko.cell 5
 have fo_5 := ko.frozen 5
 go_upto_region 27 with (fail)
 clear co_5 fo_5
 have ho6 : Only vmx1 (vmx1.setCell ⟨b, 5, none⟩ (.slice Ax2 Nx2 cx2)) (fun k => k = b) := (Only.setCell (S := fun k => k = b) vmx1 ⟨b, 5, none⟩ (.slice Ax2 Nx2 cx2) (by simp))
 replace oS := Lib.hid (own_only oS.out ho6 (fun k hk h_ => by rcases h_ with rfl <;> first | exact own_blk_ne oS.out ko (by decide) hk))
 replace oH := Lib.hid (own_only oH.out ho6 (fun k hk h_ => by rcases h_ with rfl <;> first | exact own_blk_ne oH.out ko (by decide) hk))
 replace ox1 := Lib.hid (own_only ox1.out ho6 (fun k hk h_ => by rcases h_ with rfl <;> first | exact own_blk_ne ox1.out ko (by decide) hk))
 replace ox2 := Lib.hid (own_only ox2.out ho6 (fun k hk h_ => by rcases h_ with rfl <;> first | exact own_blk_ne ox2.out ko (by decide) hk))
 replace kc : Blk (vmx1.setCell ⟨b, 5, none⟩ (.slice Ax2 Nx2 cx2)) g 92 #[.int .i64 a, .int .i64 r, .int .i64 sq, .string t, .bool true, .slice A n cp, .bool true, .slice A' n' cp'] := (kc.far (p := ⟨b, 5, none⟩) (by simp only; omega) (.slice Ax2 Nx2 cx2))
 replace km : Blk (vmx1.setCell ⟨b, 5, none⟩ (.slice Ax2 Nx2 cx2)) (g + 1) 82 #[.int .i64 r, .int .i64 mw, .int .i64 ms, .slice A2 n2 c2] := (km.far (p := ⟨b, 5, none⟩) (by simp only; omega) (.slice Ax2 Nx2 cx2))
 replace kr : Blk (vmx1.setCell ⟨b, 5, none⟩ (.slice Ax2 Nx2 cx2)) (g + 2) 92 #[.int .i64 0, .int .i64 0, .int .i64 0, .string ⟨#[]⟩, .bool false, .slice none 0 0, .bool false, .slice none 0 0] := (kr.far (p := ⟨b, 5, none⟩) (by simp only; omega) (.slice Ax2 Nx2 cx2))
 replace ko : Blk (vmx1.setCell ⟨b, 5, none⟩ (.slice Ax2 Nx2 cx2)) b 92 #[.int .i64 a, .int .i64 (r + 1), .int .i64 sq, .string t, .bool true, .slice Ax2 Nx2 cx2, .bool true, .slice A3 n3 c3] := (ko.set_ 5 (.slice Ax2 Nx2 cx2))
 replace hb : Below g w (vmx1.setCell ⟨b, 5, none⟩ (.slice Ax2 Nx2 cx2)) := (hb.setCell (p := ⟨b, 5, none⟩) (by simp only; omega) (.slice Ax2 Nx2 cx2))
 have hs6 : (vmx1.setCell ⟨b, 5, none⟩ (.slice Ax2 Nx2 cx2)).heap.size = vmx1.heap.size := by simp
 generalize (vmx1.setCell ⟨b, 5, none⟩ (.slice Ax2 Nx2 cx2)) = U6 at *
 replace hsz : g ≤ U6.heap.size := by omega
 replace lc := kc.lt
 replace lm := km.lt
 replace lr := kr.lt
 replace lo := ko.lt
 have cc_6 := kc.cell 6
 have cc_7 := kc.cell 7
 go_upto_region 28 with (fail)
 go_wp2_with fail
 clear cc_6 cc_7
 obtain ⟨Ny1, hNy1⟩ : ∃ N, (meetC (meetC d S) H).length = N := ⟨_, rfl⟩
 obtain ⟨Ny2, hNy2⟩ : ∃ N, (meetD (meetC d S) H).length = N := ⟨_, rfl⟩
 have HNy1 := Lib.hid hNy1
 have HNy2 := Lib.hid hNy2
 clear hNy1 hNy2
 have hc := meet_any (meetC d S) H Ax1 A' Nx1 n' cx1 cp' U6 (rdS_ ox1.out (small_of (small_meetC d S)).2) ((HH.out.below hb).more hsz)
 rw [H_m2.out] at hc
 refine hc.mono ?_
 clear hc
 rintro e vmy1 ⟨xy1, xy2, rfl, qy1, qy2, -, hvm⟩
 obtain ⟨Ay1, cy1, rfl⟩ := qy1.form_ (n := Ny1) HNy1.out
 obtain ⟨Ay2, cy2, rfl⟩ := qy2.form_ (n := Ny2) HNy2.out
 obtain ⟨Zy1, hZy1⟩ : ∃ Z, U6.heap.size = Z := ⟨_, rfl⟩
 rw [hZy1] at qy1 qy2
 have hgZy1 : g + 2 < Zy1 := by omega
 replace kc := kc.below hvm kc.lt
 replace lc := kc.lt
 replace km := km.below hvm km.lt
 replace lm := km.lt
 replace kr := kr.below hvm kr.lt
 replace lr := kr.lt
 replace ko := ko.below hvm ko.lt
 replace lo := ko.lt
 replace oS := Lib.hid (own_below oS.out hvm)
 replace oH := Lib.hid (own_below oH.out hvm)
 replace ox1 := Lib.hid (own_below ox1.out hvm)
 replace ox2 := Lib.hid (own_below ox2.out hvm)
 replace hb := hb.trans (hvm.mono hsz)
 replace hsz : g ≤ vmy1.heap.size := Nat.le_trans hsz hvm.size
 clear hvm
 have oy1 := Lib.hid qy1
 clear qy1
 have oy2 := Lib.hid qy2
 clear qy2
 have co_7 := ko.cell 7
 have fo_7 := ko.frozen 7
 go_upto_region 31 with (fail)
 clear co_7 fo_7
 have ho7 : Only vmy1 (vmy1.setCell ⟨b, 7, none⟩ (.slice Ay2 Ny2 cy2)) (fun k => k = b) := (Only.setCell (S := fun k => k = b) vmy1 ⟨b, 7, none⟩ (.slice Ay2 Ny2 cy2) (by simp))
 replace oS := Lib.hid (own_only oS.out ho7 (fun k hk h_ => by rcases h_ with rfl <;> first | exact own_blk_ne oS.out ko (by decide) hk))
 replace oH := Lib.hid (own_only oH.out ho7 (fun k hk h_ => by rcases h_ with rfl <;> first | exact own_blk_ne oH.out ko (by decide) hk))
 replace ox1 := Lib.hid (own_only ox1.out ho7 (fun k hk h_ => by rcases h_ with rfl <;> first | exact own_blk_ne ox1.out ko (by decide) hk))
 replace ox2 := Lib.hid (own_only ox2.out ho7 (fun k hk h_ => by rcases h_ with rfl <;> first | exact own_blk_ne ox2.out ko (by decide) hk))
 replace oy1 := Lib.hid (own_only oy1.out ho7 (fun k hk h_ => by rcases h_ with rfl <;> first | exact own_blk_ne oy1.out ko (by decide) hk))
 replace oy2 := Lib.hid (own_only oy2.out ho7 (fun k hk h_ => by rcases h_ with rfl <;> first | exact own_blk_ne oy2.out ko (by decide) hk))
 replace kc : Blk (vmy1.setCell ⟨b, 7, none⟩ (.slice Ay2 Ny2 cy2)) g 92 #[.int .i64 a, .int .i64 r, .int .i64 sq, .string t, .bool true, .slice A n cp, .bool true, .slice A' n' cp'] := (kc.far (p := ⟨b, 7, none⟩) (by simp only; omega) (.slice Ay2 Ny2 cy2))
 replace km : Blk (vmy1.setCell ⟨b, 7, none⟩ (.slice Ay2 Ny2 cy2)) (g + 1) 82 #[.int .i64 r, .int .i64 mw, .int .i64 ms, .slice A2 n2 c2] := (km.far (p := ⟨b, 7, none⟩) (by simp only; omega) (.slice Ay2 Ny2 cy2))
 replace kr : Blk (vmy1.setCell ⟨b, 7, none⟩ (.slice Ay2 Ny2 cy2)) (g + 2) 92 #[.int .i64 0, .int .i64 0, .int .i64 0, .string ⟨#[]⟩, .bool false, .slice none 0 0, .bool false, .slice none 0 0] := (kr.far (p := ⟨b, 7, none⟩) (by simp only; omega) (.slice Ay2 Ny2 cy2))
 replace ko : Blk (vmy1.setCell ⟨b, 7, none⟩ (.slice Ay2 Ny2 cy2)) b 92 #[.int .i64 a, .int .i64 (r + 1), .int .i64 sq, .string t, .bool true, .slice Ax2 Nx2 cx2, .bool true, .slice Ay2 Ny2 cy2] := (ko.set_ 7 (.slice Ay2 Ny2 cy2))
 replace hb : Below g w (vmy1.setCell ⟨b, 7, none⟩ (.slice Ay2 Ny2 cy2)) := (hb.setCell (p := ⟨b, 7, none⟩) (by simp only; omega) (.slice Ay2 Ny2 cy2))
 have hs7 : (vmy1.setCell ⟨b, 7, none⟩ (.slice Ay2 Ny2 cy2)).heap.size = vmy1.heap.size := by simp
 generalize (vmy1.setCell ⟨b, 7, none⟩ (.slice Ay2 Ny2 cy2)) = U7 at *
 replace hsz : g ≤ U7.heap.size := by omega
 replace lc := kc.lt
 replace lm := km.lt
 replace lr := kr.lt
 replace lo := ko.lt
 have cc_3 := kc.cell 3
 go_wp2_with fail
 clear cc_3
 have hc := do_any (meetC (meetC d S) H) Ay1 Ny1 cy1 _ t U7 (rdS_ oy1.out (small_of (small_meetC (meetC d S) H)).2) (Nat.le_refl _) (by omega)
 rw [H_dd.out] at hc
 refine (hc).mono ?_
 rintro e v8 ⟨rfl, hv8⟩
 replace kc := kc.below hv8 kc.lt
 replace lc := kc.lt
 replace km := km.below hv8 km.lt
 replace lm := km.lt
 replace kr := kr.below hv8 kr.lt
 replace lr := kr.lt
 replace ko := ko.below hv8 ko.lt
 replace lo := ko.lt
 replace oS := Lib.hid (own_below oS.out hv8)
 replace oH := Lib.hid (own_below oH.out hv8)
 replace ox1 := Lib.hid (own_below ox1.out hv8)
 replace ox2 := Lib.hid (own_below ox2.out hv8)
 replace oy1 := Lib.hid (own_below oy1.out hv8)
 replace oy2 := Lib.hid (own_below oy2.out hv8)
 replace hb := hb.trans (hv8.mono hsz)
 replace hsz : g ≤ v8.heap.size := Nat.le_trans hsz hv8.size
 clear hv8
 clear hc
 have co_3 := ko.cell 3
 have fo_3 := ko.frozen 3
 go_upto_region 34 with (fail)
 clear co_3 fo_3
 have ho9 : Only v8 (v8.setCell ⟨b, 3, none⟩ (.string (doS (meetC (meetC d S) H) t))) (fun k => k = b) := (Only.setCell (S := fun k => k = b) v8 ⟨b, 3, none⟩ (.string (doS (meetC (meetC d S) H) t)) (by simp))
 replace oS := Lib.hid (own_only oS.out ho9 (fun k hk h_ => by rcases h_ with rfl <;> first | exact own_blk_ne oS.out ko (by decide) hk))
 replace oH := Lib.hid (own_only oH.out ho9 (fun k hk h_ => by rcases h_ with rfl <;> first | exact own_blk_ne oH.out ko (by decide) hk))
 replace ox1 := Lib.hid (own_only ox1.out ho9 (fun k hk h_ => by rcases h_ with rfl <;> first | exact own_blk_ne ox1.out ko (by decide) hk))
 replace ox2 := Lib.hid (own_only ox2.out ho9 (fun k hk h_ => by rcases h_ with rfl <;> first | exact own_blk_ne ox2.out ko (by decide) hk))
 replace oy1 := Lib.hid (own_only oy1.out ho9 (fun k hk h_ => by rcases h_ with rfl <;> first | exact own_blk_ne oy1.out ko (by decide) hk))
 replace oy2 := Lib.hid (own_only oy2.out ho9 (fun k hk h_ => by rcases h_ with rfl <;> first | exact own_blk_ne oy2.out ko (by decide) hk))
 replace kc : Blk (v8.setCell ⟨b, 3, none⟩ (.string (doS (meetC (meetC d S) H) t))) g 92 #[.int .i64 a, .int .i64 r, .int .i64 sq, .string t, .bool true, .slice A n cp, .bool true, .slice A' n' cp'] := (kc.far (p := ⟨b, 3, none⟩) (by simp only; omega) (.string (doS (meetC (meetC d S) H) t)))
 replace km : Blk (v8.setCell ⟨b, 3, none⟩ (.string (doS (meetC (meetC d S) H) t))) (g + 1) 82 #[.int .i64 r, .int .i64 mw, .int .i64 ms, .slice A2 n2 c2] := (km.far (p := ⟨b, 3, none⟩) (by simp only; omega) (.string (doS (meetC (meetC d S) H) t)))
 replace kr : Blk (v8.setCell ⟨b, 3, none⟩ (.string (doS (meetC (meetC d S) H) t))) (g + 2) 92 #[.int .i64 0, .int .i64 0, .int .i64 0, .string ⟨#[]⟩, .bool false, .slice none 0 0, .bool false, .slice none 0 0] := (kr.far (p := ⟨b, 3, none⟩) (by simp only; omega) (.string (doS (meetC (meetC d S) H) t)))
 replace ko : Blk (v8.setCell ⟨b, 3, none⟩ (.string (doS (meetC (meetC d S) H) t))) b 92 #[.int .i64 a, .int .i64 (r + 1), .int .i64 sq, .string (doS (meetC (meetC d S) H) t), .bool true, .slice Ax2 Nx2 cx2, .bool true, .slice Ay2 Ny2 cy2] := (ko.set_ 3 (.string (doS (meetC (meetC d S) H) t)))
 replace hb : Below g w (v8.setCell ⟨b, 3, none⟩ (.string (doS (meetC (meetC d S) H) t))) := (hb.setCell (p := ⟨b, 3, none⟩) (by simp only; omega) (.string (doS (meetC (meetC d S) H) t)))
 have hs9 : (v8.setCell ⟨b, 3, none⟩ (.string (doS (meetC (meetC d S) H) t))).heap.size = v8.heap.size := by simp
 generalize (v8.setCell ⟨b, 3, none⟩ (.string (doS (meetC (meetC d S) H) t))) = U9 at *
 replace hsz : g ≤ U9.heap.size := by omega
 replace lc := kc.lt
 replace lm := km.lt
 replace lr := kr.lt
 replace lo := ko.lt
 go_wp2_with (first | (refine wpList_load_blk rfl _ (.tmp 8) rfl b rfl _ (client_row ko rfl) ?_) | (refine wpList_store_blk rfl _ (.tmp 4) (.tmp 123) rfl (g + 2) _ rfl rfl _ _ kr client_info rfl (by simp [Value.oneCell']) ?_))
 have kz := kr.row #[.int .i64 a, .int .i64 (r + 1), .int .i64 sq, .string (doS (meetC (meetC d S) H) t), .bool true, .slice Ax2 Nx2 cx2, .bool true, .slice Ay2 Ny2 cy2]
 have hz := below_setRow hb (g + 2) #[.int .i64 a, .int .i64 (r + 1), .int .i64 sq, .string (doS (meetC (meetC d S) H) t), .bool true, .slice Ax2 Nx2 cx2, .bool true, .slice Ay2 Ny2 cy2] (by omega)
 have hzo := Only.setRow U9 (g + 2) #[.int .i64 a, .int .i64 (r + 1), .int .i64 sq, .string (doS (meetC (meetC d S) H) t), .bool true, .slice Ax2 Nx2 cx2, .bool true, .slice Ay2 Ny2 cy2]
 have zS := own_only oS.out hzo (fun k hk h_ => by rcases h_ with rfl; exact own_blk_ne oS.out kr (by decide) hk)
 have zH := own_only oH.out hzo (fun k hk h_ => by rcases h_ with rfl; exact own_blk_ne oH.out kr (by decide) hk)
 have zx1 := own_only ox1.out hzo (fun k hk h_ => by rcases h_ with rfl; exact own_blk_ne ox1.out kr (by decide) hk)
 have zx2 := own_only ox2.out hzo (fun k hk h_ => by rcases h_ with rfl; exact own_blk_ne ox2.out kr (by decide) hk)
 have zy1 := own_only oy1.out hzo (fun k hk h_ => by rcases h_ with rfl; exact own_blk_ne oy1.out kr (by decide) hk)
 have zy2 := own_only oy2.out hzo (fun k hk h_ => by rcases h_ with rfl; exact own_blk_ne oy2.out kr (by decide) hk)
 refine row_end2 rfl rfl rfl rfl (client_row kz rfl) ?_
 exact ⟨(Ax2, Nx2, cx2), (Ay2, Ny2, cy2), rfl, own_base zx2 (by omega), own_base zy2 (by omega), hbase ▸ hz⟩
theorem cin_good (c : Cl) (s h : Sl) (mw ms : Int) (d : List Pt) (A2 : Option Addr) (n2 c2 : Nat) (w : World) (hk : CkOk c) (hS : RdP w w.heap.size s.1 s.2.1 s.2.2 c.sent) (hH : RdP w w.heap.size h.1 h.2.1 h.2.2 c.held) (hd : RdP w w.heap.size A2 n2 c2 d)
 (hn : s.2.1 ≤ 4000000) (hn' : h.2.1 ≤ 4000000) (hr : c.rev ≠ 2147483647) (h1 : mw ≠ c.who) (hE : inE c d = 0) :
 Calls Try.prog 74 #[clv c s h, mgv c.rev mw ms (A2, n2, c2)] w fun e w' => ∃ s1 h1 : Sl, e = .returned (.tuple #[clv (inR c d) s1 h1, .int .i64 (inE c d)]) ∧ OwnSl w' w.heap.size s1 (inR c d).sent ∧ OwnSl w' w.heap.size h1 (inR c d).held ∧ Below w.heap.size w w' := by
 obtain ⟨a, r, sq, t, f, S, q, H⟩ := c
 by_cases he : chk d = 0
 · cases f with
   | false =>
     cases q with
     | true => exact absurd (hk.wf rfl) (by simp)
     | false =>
       by_cases e3 : doE d t = 0
       · have e' : inR ⟨a, r, sq, t, false, S, false, H⟩ d = ⟨a, r + 1, sq, doS d t, false, S, false, H⟩ := by unfold inR; rw [if_pos hE]; rfl
         rw [hE, e']
         exact cin_ff_ok a r sq t false false S H s.1 h.1 s.2.1 h.2.1 s.2.2 h.2.2 mw ms d A2 n2 c2 w hk hS hH hd hn hn' hr he rfl rfl h1 e3
       · exact absurd hE (by first | (simp [inE, in1E, in2E, in2D, in1D, he]; done) | simpa [inE, in1E, in2E, in2D, in1D, he] using e3)
   | true =>
     by_cases e1 : meetE d S = 0
     · cases q with
       | false =>
         by_cases e3 : doE (meetC d S) t = 0
         · have e' : inR ⟨a, r, sq, t, true, S, false, H⟩ d = ⟨a, r + 1, sq, doS (meetC d S) t, true, meetD d S, false, H⟩ := by unfold inR; rw [if_pos hE]; rfl
           rw [hE, e']
           exact cin_tf_ok a r sq t true false S H s.1 h.1 s.2.1 h.2.1 s.2.2 h.2.2 mw ms d A2 n2 c2 w hk hS hH hd hn hn' hr he rfl rfl h1 e1 e3
         · exact absurd hE (by first | (simp [inE, in1E, in2E, in2D, in1D, he, e1]; done) | simpa [inE, in1E, in2E, in2D, in1D, he, e1] using e3)
       | true =>
         by_cases e2 : meetE (meetC d S) H = 0
         · by_cases e3 : doE (meetC (meetC d S) H) t = 0
           · have e' : inR ⟨a, r, sq, t, true, S, true, H⟩ d = ⟨a, r + 1, sq, doS (meetC (meetC d S) H) t, true, meetD d S, true, meetD (meetC d S) H⟩ := by unfold inR; rw [if_pos hE]; rfl
             rw [hE, e']
             exact cin_tt_ok a r sq t true true S H s.1 h.1 s.2.1 h.2.1 s.2.2 h.2.2 mw ms d A2 n2 c2 w hk hS hH hd hn hn' hr he rfl rfl h1 e1 e2 e3
           · exact absurd hE (by first | (simp [inE, in1E, in2E, in2D, in1D, he, e1, e2]; done) | simpa [inE, in1E, in2E, in2D, in1D, he, e1, e2] using e3)
         · exact absurd hE (by first | (simp [inE, in1E, in2E, in2D, in1D, he, e1, e2]; done) | simpa [inE, in1E, in2E, in2D, in1D, he, e1, e2] using e2)
     · exact absurd hE (by first | (simp [inE, in1E, he, e1]; done) | simpa [inE, in1E, he, e1] using e1)
 · exact absurd hE (by first | (simp [inE, he]; done) | simpa [inE, he] using he)
theorem cin_own (c : Cl) (s h : Sl) (d : List Pt) (A2 : Option Addr) (n2 c2 : Nat) (w : World) (hk : CkOk c) (hS : RdP w w.heap.size s.1 s.2.1 s.2.2 c.sent) (hH : RdP w w.heap.size h.1 h.2.1 h.2.2 c.held) (hd : RdP w w.heap.size A2 n2 c2 d)
 (hn : s.2.1 ≤ 4000000) (hn' : h.2.1 ≤ 4000000) (hr : c.rev ≠ 2147483647) (he : chk d = 0) (hf : c.fly = true) (hm : c.wait = true → c.seq ≠ 2147483647) :
 Calls Try.prog 74 #[clv c s h, mgv c.rev c.who c.seq (A2, n2, c2)] w fun e w' => ∃ s1 h1 : Sl, e = .returned (.tuple #[clv (inO c) s1 h1, .int .i64 0]) ∧ OwnSl w' w.heap.size s1 (inO c).sent ∧ OwnSl w' w.heap.size h1 (inO c).held ∧ Below w.heap.size w w' := by
 obtain ⟨a, r, sq, t, f, S, q, H⟩ := c
 simp only at hf
 subst hf
 cases q with
 | false => exact cin_own_false a r sq t true false S H s.1 h.1 s.2.1 h.2.1 s.2.2 h.2.2 a sq d A2 n2 c2 w hk hS hH hd hn hn' hr he rfl rfl rfl rfl
 | true => exact cin_own_true a r sq t true true S H s.1 h.1 s.2.1 h.2.1 s.2.2 h.2.2 a sq d A2 n2 c2 w hk hS hH hd hn hn' hr he rfl rfl rfl rfl (hm rfl)
end Go.Proofs.Ytokngfinnieccaa
