/- Rows of parts of the call's own, short, of short texts. Contract of hot.rev. -/
import Derived.Test.YtokngfinnieccaaV8
import Derived.Test.YtokngfinnieccaaV9
import Derived.Test.YtokngfinnieccaaV11
import Derived.Test.YtokngfinnieccaaV4
import Derived.Test.YtokngfinnieccaaV7
namespace Go.Proofs.Ytokngfinnieccaa
open Go.ChangeShapes Go.WideShapes Go.RowKit
set_option linter.unusedVariables false
set_option linter.unusedSimpArgs false
set_option maxRecDepth 100000
set_option maxHeartbeats 4000000
structure Mine (w : World) (B : Nat) (v : Value) (l : List Pt) : Prop where
 own : OwnP w B v l
 len : l.length ≤ 1600
 txt : ∀ p ∈ l, p.2.2.size ≤ 140737488351232
theorem small_of {l : List Pt} (h : chk l = 0 ∨ l = []) : l.length ≤ 1600 ∧ ∀ p ∈ l, p.2.2.size ≤ 140737488351232 := by
 rcases h with h | rfl
 · exact ⟨((good_iff l).1 h).1, text_good h⟩
 · exact ⟨by simp, by simp⟩
theorem small_meetC (a b : List Pt) : chk (meetC a b) = 0 ∨ meetC a b = [] := by
 by_cases h : meetE a b = 0
 · exact .inl (meet_good h).1
 · exact .inr (meet_err h).1
theorem own_ne_ {w : World} {B B' : Nat} {e e' : TypeId} {size size' n n' : Nat} {v v' : Value} {xs xs' : List Value} (h : w.ownsRow B e size v n xs) (h' : w.ownsRow B' e' size' v' n' xs') (hne : e ≠ e') : v.ownBlock = none ∨ v.ownBlock ≠ v'.ownBlock := by
 rcases h.2 with ⟨rfl, _⟩ | ⟨g, cap, cur, rfl, _, hg, _⟩
 · exact .inl rfl
 · rcases h'.2 with ⟨rfl, _⟩ | ⟨g', cap', cur', rfl, _, hg', _⟩
   · exact .inr (by simp [Value.ownBlock])
   · refine .inr fun he => ?_
     simp only [Value.ownBlock, Option.some.injEq] at he
     subst he
     rw [hg] at hg'
     injection hg' with hg'
     injection hg' with _ h2
     exact hne h2
theorem rdSx {w : World} {B : Nat} {A : Option Addr} {n c : Nat} {l : List Pt} (h : OwnP w B (.slice A n c) l) (ht : ∀ p ∈ l, p.2.2.size ≤ 140737488351232) : RdP w w.heap.size A n c l := by
 obtain ⟨A', c', e, hr⟩ := h.rd ht
 injection e with e1 e2 e3
 subst e1; subst e2; subst e3
 exact hr
theorem rev_info : (Try.prog.info? 30).map (·.size) = some 3 := by kernel_rfl
theorem rev_row {W : World} {g : Nat} {cs : Array Value} (h : Blk W g 30 cs) (hs : cs.size = 3) : (loadVar 30 ⟨g, 0, none⟩).run Try.prog W = .ok (.agg cs) W :=
 run_loadVar_row (P := Try.prog) W g 30 30 _ _ _ h Try.underlying30 rfl (by rw [hs]; exact rev_info)
def rvV (s : List UInt8) : Rv := ((rN s).1, (rN (rN s).2.1).1, readL (rN (rN s).2.1).2.1)
def rvOk (s : List UInt8) : Bool := !(rN s).2.2 && !(rN (rN s).2.1).2.2 && decide (readE (rN (rN s).2.1).2.1 = 0) && decide (oneE (rvV s) = 0)
theorem rev_bad (s : ByteArray) (w : World) (hs : s.size ≤ 140737488351232) (x1 x2 : Nat) (r1 r2 : List UInt8) (e1 e2 : Bool) (hx : rN s.data.toList = (x1, r1, e1)) (hy : rN r1 = (x2, r2, e2)) (L : List Pt) (hL : readL r2 = L) (hb : (true && !e1 && !e2) = false) :
 Calls Try.prog 117 #[.string s] w fun e w' => ∃ A n c, e = .returned (.tuple #[.agg #[.int .i64 x1, .int .i64 x2, .slice A n c], .bool false]) ∧ OwnP w' w.heap.size (.slice A n c) L ∧ n = L.length ∧ Below w.heap.size w w' := by
 have HX := Lib.hid hx
 have HY := Lib.hid hy
 have HL := Lib.hid hL
 have Hb := Lib.hid hb
 clear hx hy hL hb
 have hb0 : Below w.heap.size w w := Below.refl _ _
 have hb1 := hb0.alloc hb0.size (.cells #[.string s] 9)
 have kt := Blk.new w 9 #[.string s]
 have hb2 := hb1.alloc hb1.size (.cells #[.int .i64 0, .int .i64 0, .slice none 0 0] 30)
 replace kt := kt.alloc (.cells #[.int .i64 0, .int .i64 0, .slice none 0 0] 30)
 have kr := Blk.new (w.alloc (.cells #[.string s] 9)) 30 #[.int .i64 0, .int .i64 0, .slice none 0 0]
 have hb3 := hb2.alloc hb2.size (.cells #[.bool true] 4)
 replace kt := kt.alloc (.cells #[.bool true] 4)
 replace kr := kr.alloc (.cells #[.bool true] 4)
 have kq := Blk.new ((w.alloc (.cells #[.string s] 9)).alloc (.cells #[.int .i64 0, .int .i64 0, .slice none 0 0] 30)) 4 #[.bool true]
 clear hb0 hb1 hb2
 have hb := hb3
 clear hb3
 simp only [World.size_alloc] at kt kr kq
 go_enter Try.func117, Try.ntmps117
 go_upto_region 2 with (fail)
 generalize (((w.alloc (.cells #[.string s] 9)).alloc (.cells #[.int .i64 0, .int .i64 0, .slice none 0 0] 30)).alloc (.cells #[.bool true] 4)) = W0 at *
 obtain ⟨g, hbase⟩ : ∃ g, w.heap.size = g := ⟨_, rfl⟩
 rw [hbase] at hb kt kr kq ⊢
 have hsz : g ≤ W0.heap.size := by have := hb.size; omega
 have lt := kt.lt
 have lr := kr.lt
 have lq := kq.lt
 go_wp2_with fail
 have hc := take_any g (g + 1 + 1) s true W0 kt kq hs
 rw [HX.out] at hc
 refine hc.mono ?_
 clear hc
 rintro e wa ⟨rfl, s1, zt, zq, hd1, hl1, hoa⟩
 simp only at hd1 zq
 replace kt := zt
 clear zt
 replace lt := kt.lt
 replace kr := kr.only hoa (by intro h_; rcases h_ with h_ | h_ <;> omega)
 replace lr := kr.lt
 replace kq := zq
 clear zq
 replace lq := kq.lt
 replace hb := hb.trans (Only.below hoa hsz (fun k h_ => by rcases h_ with rfl | rfl <;> omega))
 replace hsz : g ≤ wa.heap.size := Nat.le_trans hsz hoa.2.2.2.1
 go_wp2_with fail
 have hc := take_any g (g + 1 + 1) s1 (true && !e1) wa kt kq (by omega)
 rw [hd1, HY.out] at hc
 refine hc.mono ?_
 clear hc
 rintro e wb ⟨rfl, s2, zt, zq, hd2, hl2, hob⟩
 simp only at hd2 zq
 rw [Hb.out] at zq
 replace kt := zt
 clear zt
 replace lt := kt.lt
 replace kr := kr.only hob (by intro h_; rcases h_ with h_ | h_ <;> omega)
 replace lr := kr.lt
 replace kq := zq
 clear zq
 replace lq := kq.lt
 replace hb := hb.trans (Only.below hob hsz (fun k h_ => by rcases h_ with rfl | rfl <;> omega))
 replace hsz : g ≤ wb.heap.size := Nat.le_trans hsz hob.2.2.2.1
 go_upto_region 3 with (fail)
 replace kt := kt.alloc (.cells #[.int .i64 x1, .int .i64 x2, .slice none 0 0] 30)
 replace kr := kr.alloc (.cells #[.int .i64 x1, .int .i64 x2, .slice none 0 0] 30)
 replace kq := kq.alloc (.cells #[.int .i64 x1, .int .i64 x2, .slice none 0 0] 30)
 have kv := Blk.new wb 30 #[.int .i64 x1, .int .i64 x2, .slice none 0 0]
 replace hb := hb.alloc hsz (.cells #[.int .i64 x1, .int .i64 x2, .slice none 0 0] 30)
 have hs1 : (wb.alloc (.cells #[.int .i64 x1, .int .i64 x2, .slice none 0 0] 30)).heap.size = wb.heap.size + 1 := World.size_alloc _ _
 obtain ⟨U1, hU_⟩ : ∃ U_, (wb.alloc (.cells #[.int .i64 x1, .int .i64 x2, .slice none 0 0] 30)) = U_ := ⟨_, rfl⟩
 rw [hU_] at kt kr kq hb kv hs1 ⊢
 clear hU_
 obtain ⟨y, hey⟩ : ∃ y, wb.heap.size = y := ⟨_, rfl⟩
 rw [hey] at kv ⊢
 have nb1 : g ≤ y := by omega
 replace hsz : g ≤ U1.heap.size := by omega
 have nq1_t : g < y := by omega
 have nq1_r : g + 1 < y := by omega
 have nq1_q : g + 1 + 1 < y := by omega
 have lv := kv.lt
 have ct_0 := kt.cell 0
 go_wp2_with fail
 clear ct_0
 have hc := cread_any s2 U1 (by omega)
 rw [hd2, HL.out] at hc
 refine hc.mono ?_
 clear hc
 rintro e wr ⟨vd, rfl, hod, hvr⟩
 obtain ⟨n, hn⟩ : ∃ n, L.length = n := ⟨_, rfl⟩
 obtain ⟨A, c, rfl⟩ := hod.form_ (n := n) hn
 have Hn := Lib.hid hn
 obtain ⟨Z, hZ⟩ : ∃ Z, U1.heap.size = Z := ⟨_, rfl⟩
 rw [hZ] at hod
 have hgZ : g ≤ Z := by omega
 clear hn
 replace kt := kt.below hvr kt.lt
 replace lt := kt.lt
 replace kr := kr.below hvr kr.lt
 replace lr := kr.lt
 replace kq := kq.below hvr kq.lt
 replace lq := kq.lt
 replace kv := kv.below hvr kv.lt
 replace lv := kv.lt
 replace hb := hb.trans (hvr.mono hsz)
 replace hsz : g ≤ wr.heap.size := Nat.le_trans hsz hvr.size
 clear hvr
 have oD := Lib.hid hod
 clear hod
 have cv_2 := kv.cell 2
 have fv_2 := kv.frozen 2
 go_upto_region 5 with (fail)
 clear cv_2 fv_2
 have ho2 : Only wr (wr.setCell ⟨y, 2, none⟩ (.slice A n c)) (fun k => k = y) := (Only.setCell (S := fun k => k = y) wr ⟨y, 2, none⟩ (.slice A n c) (by simp))
 replace oD := Lib.hid (own_only oD.out ho2 (fun k hk h_ => by rcases h_ with rfl <;> first | exact own_blk_ne oD.out kv (by decide) hk))
 replace kt : Blk (wr.setCell ⟨y, 2, none⟩ (.slice A n c)) g 9 #[.string s2] := (kt.far (p := ⟨y, 2, none⟩) (by simp only; omega) (.slice A n c))
 replace kr : Blk (wr.setCell ⟨y, 2, none⟩ (.slice A n c)) (g + 1) 30 #[.int .i64 0, .int .i64 0, .slice none 0 0] := (kr.far (p := ⟨y, 2, none⟩) (by simp only; omega) (.slice A n c))
 replace kq : Blk (wr.setCell ⟨y, 2, none⟩ (.slice A n c)) (g + 1 + 1) 4 #[.bool false] := (kq.far (p := ⟨y, 2, none⟩) (by simp only; omega) (.slice A n c))
 replace kv : Blk (wr.setCell ⟨y, 2, none⟩ (.slice A n c)) y 30 #[.int .i64 x1, .int .i64 x2, .slice A n c] := (kv.set_ 2 (.slice A n c))
 replace hb : Below g w (wr.setCell ⟨y, 2, none⟩ (.slice A n c)) := (hb.setCell (p := ⟨y, 2, none⟩) (by simp only; omega) (.slice A n c))
 have hs2 : (wr.setCell ⟨y, 2, none⟩ (.slice A n c)).heap.size = wr.heap.size := by simp
 obtain ⟨U2, hU_⟩ : ∃ U_, (wr.setCell ⟨y, 2, none⟩ (.slice A n c)) = U_ := ⟨_, rfl⟩
 rw [hU_] at kt kr kq kv oD hb ho2 hs2 ⊢
 clear hU_
 replace hsz : g ≤ U2.heap.size := by omega
 replace lt := kt.lt
 replace lr := kr.lt
 replace lq := kq.lt
 replace lv := kv.lt
 refine wp_region_held (S := fun w' => (Blk w' y 30 #[.int .i64 x1, .int .i64 x2, .slice A n c] ∧ w'.cell? ⟨g + 1 + 1, 0, none⟩ = some (.bool false))) (by kernel_rfl) ?_
 have hS : (Blk U2.drew y 30 #[.int .i64 x1, .int .i64 x2, .slice A n c] ∧ U2.drew.cell? ⟨g + 1 + 1, 0, none⟩ = some (.bool false)) := ⟨kv.drew, kq.drew.cell 0⟩
 change wpAnyH _ _ _ _ _ _ _ _ U2.drew
 refine tkZ 18 0 rfl rfl (.agg #[.int .i64 x1, .int .i64 x2, .slice A n c]) (.inl ⟨rfl, fun w' h' => exec_load_blk _ _ rfl y rfl _ (rev_row h'.1 rfl)⟩) hS ?_
 simp only [Act.put, zA, zB, zC]
 refine tkZ 19 1 rfl rfl (.bool false) (.inl ⟨rfl, fun w' h' => by obtain ⟨-, h1⟩ := h'; go_simp⟩) hS ?_
 simp only [Act.put, zA, zB, zC]
 refine tkZ 20 2 rfl rfl (.bool false) (.inl ⟨rfl, fun w' h' => by go_simp⟩) hS ?_
 simp only [Act.put, zA, zB, zC]
 refine tkZ 21 3 rfl rfl (undef) (.inr ⟨rfl, rfl⟩) hS ?_
 simp only [Act.put, zA, zB, zC]
 refine tkZ 22 4 rfl rfl (undef) (.inr ⟨rfl, rfl⟩) hS ?_
 simp only [Act.put, zA, zB, zC]
 refine tkZ 23 5 rfl rfl (.bool false) (.inl ⟨rfl, fun w' h' => by go_simp⟩) hS ?_
 simp only [Act.put, zA, zB, zC]
 refine tkZ 24 6 rfl rfl (.bool false) (.inl ⟨rfl, fun w' h' => by go_simp⟩) hS ?_
 simp only [Act.put, zA, zB, zC]
 refine tkZ 25 7 rfl rfl (undef) (.inr ⟨rfl, rfl⟩) hS ?_
 simp only [Act.put, zA, zB, zC]
 refine tkZ 26 8 rfl rfl (undef) (.inr ⟨rfl, rfl⟩) hS ?_
 simp only [Act.put, zA, zB, zC]
 refine tkZ 27 9 rfl rfl (undef) (.inr ⟨rfl, rfl⟩) hS ?_
 simp only [Act.put, zA, zB, zC]
 refine tkZ 28 10 rfl rfl (.bool false) (.inl ⟨rfl, fun w' h' => by go_simp⟩) hS ?_
 simp only [Act.put, zA, zB, zC]
 refine wpAnyH_all (rs := [11]) (by kernel_rfl) (List.cons_ne_nil _ _) (fun i11 hi11 => ?_)
 obtain rfl := List.mem_singleton.1 hi11
 refine wpOp_store_blk rfl rfl rfl _ (.tmp 2) (.tmp 18) rfl (g + 1) #[.int .i64 x1, .int .i64 x2, .slice A n c] (by kernel_rfl) (by kernel_rfl) _ _ kr.drew rev_info rfl (by simp [Value.oneCell']) ?_
 have S1 := (kv.drew).farRow (g' := g + 1) (by omega) #[.int .i64 x1, .int .i64 x2, .slice A n c]
 have S3 := (kq.drew).farRow (g' := g + 1) (by omega) #[.int .i64 x1, .int .i64 x2, .slice A n c]
 have S4 := (kr.drew).row #[.int .i64 x1, .int .i64 x2, .slice A n c]
 have S5 := below_setRow (hb.drew) (g + 1) #[.int .i64 x1, .int .i64 x2, .slice A n c] (by omega)
 have hzo := Only.setRow (U2.drew) (g + 1) #[.int .i64 x1, .int .i64 x2, .slice A n c]
 have oz : (U2.drew).ownsRow Z 88 3 (.slice A n c) L.length (pc L) := oD.out
 have S6 := own_only oz hzo (fun k hk h_ => by rcases h_ with rfl; exact own_blk_ne oD.out kr (by decide) hk)
 clear hS
 have hS := And.intro S1 (S3.cell 0)
 refine ⟨hS, ?_⟩
 refine tkZ 3 12 rfl rfl (.bool false) (.inl ⟨rfl, fun w' h' => by go_simp⟩) hS ?_
 simp only [Act.put, zA, zB, zC]
 refine wpAnyH_done (by kernel_rfl) ?_ _
 go_wp2_with fail
 refine row_end2 rfl rfl rfl rfl (rev_row S4 rfl) ?_
 exact ⟨A, n, c, rfl, own_base S6 (by omega), Hn.out.symm, hbase ▸ S5⟩
theorem rev_code (s : ByteArray) (w : World) (hs : s.size ≤ 140737488351232) (x1 x2 : Nat) (r1 r2 : List UInt8) (e1 e2 : Bool) (hx : rN s.data.toList = (x1, r1, e1)) (hy : rN r1 = (x2, r2, e2)) (L : List Pt) (hL : readL r2 = L) (hb : (true && !e1 && !e2) = true) (hE : readE r2 = 3) :
 Calls Try.prog 117 #[.string s] w fun e w' => ∃ A n c, e = .returned (.tuple #[.agg #[.int .i64 x1, .int .i64 x2, .slice A n c], .bool false]) ∧ OwnP w' w.heap.size (.slice A n c) L ∧ n = L.length ∧ Below w.heap.size w w' := by
 have HX := Lib.hid hx
 have HY := Lib.hid hy
 have HL := Lib.hid hL
 have Hb := Lib.hid hb
 clear hx hy hL hb
 have HE := Lib.hid hE
 clear hE
 have hb0 : Below w.heap.size w w := Below.refl _ _
 have hb1 := hb0.alloc hb0.size (.cells #[.string s] 9)
 have kt := Blk.new w 9 #[.string s]
 have hb2 := hb1.alloc hb1.size (.cells #[.int .i64 0, .int .i64 0, .slice none 0 0] 30)
 replace kt := kt.alloc (.cells #[.int .i64 0, .int .i64 0, .slice none 0 0] 30)
 have kr := Blk.new (w.alloc (.cells #[.string s] 9)) 30 #[.int .i64 0, .int .i64 0, .slice none 0 0]
 have hb3 := hb2.alloc hb2.size (.cells #[.bool true] 4)
 replace kt := kt.alloc (.cells #[.bool true] 4)
 replace kr := kr.alloc (.cells #[.bool true] 4)
 have kq := Blk.new ((w.alloc (.cells #[.string s] 9)).alloc (.cells #[.int .i64 0, .int .i64 0, .slice none 0 0] 30)) 4 #[.bool true]
 clear hb0 hb1 hb2
 have hb := hb3
 clear hb3
 simp only [World.size_alloc] at kt kr kq
 go_enter Try.func117, Try.ntmps117
 go_upto_region 2 with (fail)
 generalize (((w.alloc (.cells #[.string s] 9)).alloc (.cells #[.int .i64 0, .int .i64 0, .slice none 0 0] 30)).alloc (.cells #[.bool true] 4)) = W0 at *
 obtain ⟨g, hbase⟩ : ∃ g, w.heap.size = g := ⟨_, rfl⟩
 rw [hbase] at hb kt kr kq ⊢
 have hsz : g ≤ W0.heap.size := by have := hb.size; omega
 have lt := kt.lt
 have lr := kr.lt
 have lq := kq.lt
 go_wp2_with fail
 have hc := take_any g (g + 1 + 1) s true W0 kt kq hs
 rw [HX.out] at hc
 refine hc.mono ?_
 clear hc
 rintro e wa ⟨rfl, s1, zt, zq, hd1, hl1, hoa⟩
 simp only at hd1 zq
 replace kt := zt
 clear zt
 replace lt := kt.lt
 replace kr := kr.only hoa (by intro h_; rcases h_ with h_ | h_ <;> omega)
 replace lr := kr.lt
 replace kq := zq
 clear zq
 replace lq := kq.lt
 replace hb := hb.trans (Only.below hoa hsz (fun k h_ => by rcases h_ with rfl | rfl <;> omega))
 replace hsz : g ≤ wa.heap.size := Nat.le_trans hsz hoa.2.2.2.1
 go_wp2_with fail
 have hc := take_any g (g + 1 + 1) s1 (true && !e1) wa kt kq (by omega)
 rw [hd1, HY.out] at hc
 refine hc.mono ?_
 clear hc
 rintro e wb ⟨rfl, s2, zt, zq, hd2, hl2, hob⟩
 simp only at hd2 zq
 rw [Hb.out] at zq
 replace kt := zt
 clear zt
 replace lt := kt.lt
 replace kr := kr.only hob (by intro h_; rcases h_ with h_ | h_ <;> omega)
 replace lr := kr.lt
 replace kq := zq
 clear zq
 replace lq := kq.lt
 replace hb := hb.trans (Only.below hob hsz (fun k h_ => by rcases h_ with rfl | rfl <;> omega))
 replace hsz : g ≤ wb.heap.size := Nat.le_trans hsz hob.2.2.2.1
 go_upto_region 3 with (fail)
 replace kt := kt.alloc (.cells #[.int .i64 x1, .int .i64 x2, .slice none 0 0] 30)
 replace kr := kr.alloc (.cells #[.int .i64 x1, .int .i64 x2, .slice none 0 0] 30)
 replace kq := kq.alloc (.cells #[.int .i64 x1, .int .i64 x2, .slice none 0 0] 30)
 have kv := Blk.new wb 30 #[.int .i64 x1, .int .i64 x2, .slice none 0 0]
 replace hb := hb.alloc hsz (.cells #[.int .i64 x1, .int .i64 x2, .slice none 0 0] 30)
 have hs1 : (wb.alloc (.cells #[.int .i64 x1, .int .i64 x2, .slice none 0 0] 30)).heap.size = wb.heap.size + 1 := World.size_alloc _ _
 obtain ⟨U1, hU_⟩ : ∃ U_, (wb.alloc (.cells #[.int .i64 x1, .int .i64 x2, .slice none 0 0] 30)) = U_ := ⟨_, rfl⟩
 rw [hU_] at kt kr kq hb kv hs1 ⊢
 clear hU_
 obtain ⟨y, hey⟩ : ∃ y, wb.heap.size = y := ⟨_, rfl⟩
 rw [hey] at kv ⊢
 have nb1 : g ≤ y := by omega
 replace hsz : g ≤ U1.heap.size := by omega
 have nq1_t : g < y := by omega
 have nq1_r : g + 1 < y := by omega
 have nq1_q : g + 1 + 1 < y := by omega
 have lv := kv.lt
 have ct_0 := kt.cell 0
 go_wp2_with fail
 clear ct_0
 have hc := cread_any s2 U1 (by omega)
 rw [hd2, HL.out, HE.out] at hc
 refine hc.mono ?_
 clear hc
 rintro e wr ⟨vd, rfl, hod, hvr⟩
 obtain ⟨n, hn⟩ : ∃ n, L.length = n := ⟨_, rfl⟩
 obtain ⟨A, c, rfl⟩ := hod.form_ (n := n) hn
 have Hn := Lib.hid hn
 obtain ⟨Z, hZ⟩ : ∃ Z, U1.heap.size = Z := ⟨_, rfl⟩
 rw [hZ] at hod
 have hgZ : g ≤ Z := by omega
 clear hn
 replace kt := kt.below hvr kt.lt
 replace lt := kt.lt
 replace kr := kr.below hvr kr.lt
 replace lr := kr.lt
 replace kq := kq.below hvr kq.lt
 replace lq := kq.lt
 replace kv := kv.below hvr kv.lt
 replace lv := kv.lt
 replace hb := hb.trans (hvr.mono hsz)
 replace hsz : g ≤ wr.heap.size := Nat.le_trans hsz hvr.size
 clear hvr
 have oD := Lib.hid hod
 clear hod
 have cv_2 := kv.cell 2
 have fv_2 := kv.frozen 2
 go_upto_region 5 with (fail)
 clear cv_2 fv_2
 have ho2 : Only wr (wr.setCell ⟨y, 2, none⟩ (.slice A n c)) (fun k => k = y) := (Only.setCell (S := fun k => k = y) wr ⟨y, 2, none⟩ (.slice A n c) (by simp))
 replace oD := Lib.hid (own_only oD.out ho2 (fun k hk h_ => by rcases h_ with rfl <;> first | exact own_blk_ne oD.out kv (by decide) hk))
 replace kt : Blk (wr.setCell ⟨y, 2, none⟩ (.slice A n c)) g 9 #[.string s2] := (kt.far (p := ⟨y, 2, none⟩) (by simp only; omega) (.slice A n c))
 replace kr : Blk (wr.setCell ⟨y, 2, none⟩ (.slice A n c)) (g + 1) 30 #[.int .i64 0, .int .i64 0, .slice none 0 0] := (kr.far (p := ⟨y, 2, none⟩) (by simp only; omega) (.slice A n c))
 replace kq : Blk (wr.setCell ⟨y, 2, none⟩ (.slice A n c)) (g + 1 + 1) 4 #[.bool true] := (kq.far (p := ⟨y, 2, none⟩) (by simp only; omega) (.slice A n c))
 replace kv : Blk (wr.setCell ⟨y, 2, none⟩ (.slice A n c)) y 30 #[.int .i64 x1, .int .i64 x2, .slice A n c] := (kv.set_ 2 (.slice A n c))
 replace hb : Below g w (wr.setCell ⟨y, 2, none⟩ (.slice A n c)) := (hb.setCell (p := ⟨y, 2, none⟩) (by simp only; omega) (.slice A n c))
 have hs2 : (wr.setCell ⟨y, 2, none⟩ (.slice A n c)).heap.size = wr.heap.size := by simp
 obtain ⟨U2, hU_⟩ : ∃ U_, (wr.setCell ⟨y, 2, none⟩ (.slice A n c)) = U_ := ⟨_, rfl⟩
 rw [hU_] at kt kr kq kv oD hb ho2 hs2 ⊢
 clear hU_
 replace hsz : g ≤ U2.heap.size := by omega
 replace lt := kt.lt
 replace lr := kr.lt
 replace lq := kq.lt
 replace lv := kv.lt
 refine wp_region_held (S := fun w' => (Blk w' y 30 #[.int .i64 x1, .int .i64 x2, .slice A n c] ∧ w'.cell? ⟨g + 1 + 1, 0, none⟩ = some (.bool true))) (by kernel_rfl) ?_
 have hS : (Blk U2.drew y 30 #[.int .i64 x1, .int .i64 x2, .slice A n c] ∧ U2.drew.cell? ⟨g + 1 + 1, 0, none⟩ = some (.bool true)) := ⟨kv.drew, kq.drew.cell 0⟩
 change wpAnyH _ _ _ _ _ _ _ _ U2.drew
 refine tkZ 18 0 rfl rfl (.agg #[.int .i64 x1, .int .i64 x2, .slice A n c]) (.inl ⟨rfl, fun w' h' => exec_load_blk _ _ rfl y rfl _ (rev_row h'.1 rfl)⟩) hS ?_
 simp only [Act.put, zA, zB, zC]
 refine tkZ 19 1 rfl rfl (.bool true) (.inl ⟨rfl, fun w' h' => by obtain ⟨-, h1⟩ := h'; go_simp⟩) hS ?_
 simp only [Act.put, zA, zB, zC]
 refine tkZ 20 2 rfl rfl (.bool true) (.inl ⟨rfl, fun w' h' => by go_simp⟩) hS ?_
 simp only [Act.put, zA, zB, zC]
 refine tkZ 21 3 rfl rfl (.int .i64 3) (.inl ⟨rfl, fun w' h' => by go_simp⟩) hS ?_
 simp only [Act.put, zA, zB, zC]
 refine tkZ 22 4 rfl rfl (.bool false) (.inl ⟨rfl, fun w' h' => by go_simp⟩) hS ?_
 simp only [Act.put, zA, zB, zC]
 refine tkZ 23 5 rfl rfl (.bool false) (.inl ⟨rfl, fun w' h' => by go_simp⟩) hS ?_
 simp only [Act.put, zA, zB, zC]
 refine tkZ 24 6 rfl rfl (.bool false) (.inl ⟨rfl, fun w' h' => by go_simp⟩) hS ?_
 simp only [Act.put, zA, zB, zC]
 refine tkZ 25 7 rfl rfl (undef) (.inr ⟨rfl, rfl⟩) hS ?_
 simp only [Act.put, zA, zB, zC]
 refine tkZ 26 8 rfl rfl (undef) (.inr ⟨rfl, rfl⟩) hS ?_
 simp only [Act.put, zA, zB, zC]
 refine tkZ 27 9 rfl rfl (undef) (.inr ⟨rfl, rfl⟩) hS ?_
 simp only [Act.put, zA, zB, zC]
 refine tkZ 28 10 rfl rfl (.bool false) (.inl ⟨rfl, fun w' h' => by go_simp⟩) hS ?_
 simp only [Act.put, zA, zB, zC]
 refine wpAnyH_all (rs := [11]) (by kernel_rfl) (List.cons_ne_nil _ _) (fun i11 hi11 => ?_)
 obtain rfl := List.mem_singleton.1 hi11
 refine wpOp_store_blk rfl rfl rfl _ (.tmp 2) (.tmp 18) rfl (g + 1) #[.int .i64 x1, .int .i64 x2, .slice A n c] (by kernel_rfl) (by kernel_rfl) _ _ kr.drew rev_info rfl (by simp [Value.oneCell']) ?_
 have S1 := (kv.drew).farRow (g' := g + 1) (by omega) #[.int .i64 x1, .int .i64 x2, .slice A n c]
 have S3 := (kq.drew).farRow (g' := g + 1) (by omega) #[.int .i64 x1, .int .i64 x2, .slice A n c]
 have S4 := (kr.drew).row #[.int .i64 x1, .int .i64 x2, .slice A n c]
 have S5 := below_setRow (hb.drew) (g + 1) #[.int .i64 x1, .int .i64 x2, .slice A n c] (by omega)
 have hzo := Only.setRow (U2.drew) (g + 1) #[.int .i64 x1, .int .i64 x2, .slice A n c]
 have oz : (U2.drew).ownsRow Z 88 3 (.slice A n c) L.length (pc L) := oD.out
 have S6 := own_only oz hzo (fun k hk h_ => by rcases h_ with rfl; exact own_blk_ne oD.out kr (by decide) hk)
 clear hS
 have hS := And.intro S1 (S3.cell 0)
 refine ⟨hS, ?_⟩
 refine tkZ 3 12 rfl rfl (.bool false) (.inl ⟨rfl, fun w' h' => by go_simp⟩) hS ?_
 simp only [Act.put, zA, zB, zC]
 refine wpAnyH_done (by kernel_rfl) ?_ _
 go_wp2_with fail
 refine row_end2 rfl rfl rfl rfl (rev_row S4 rfl) ?_
 exact ⟨A, n, c, rfl, own_base S6 (by omega), Hn.out.symm, hbase ▸ S5⟩
theorem rev_one (s : ByteArray) (w : World) (hs : s.size ≤ 140737488351232) (x1 x2 : Nat) (r1 r2 : List UInt8) (e1 e2 : Bool) (hx : rN s.data.toList = (x1, r1, e1)) (hy : rN r1 = (x2, r2, e2)) (L : List Pt) (hL : readL r2 = L) (hb : (true && !e1 && !e2) = true) (hE : readE r2 = 0) (O : Int) (hO : oneE (x1, x2, L) = O) :
 Calls Try.prog 117 #[.string s] w fun e w' => ∃ A n c, e = .returned (.tuple #[.agg #[.int .i64 x1, .int .i64 x2, .slice A n c], .bool (O == 0)]) ∧ OwnP w' w.heap.size (.slice A n c) L ∧ n = L.length ∧ Below w.heap.size w w' := by
 have HO := Lib.hid hO
 have HLs : Hid (∀ p ∈ L, p.2.2.size ≤ 140737488351232) := Lib.hid (by rw [← hL]; exact readL_small r2)
 clear hO
 have HX := Lib.hid hx
 have HY := Lib.hid hy
 have HL := Lib.hid hL
 have Hb := Lib.hid hb
 clear hx hy hL hb
 have HE := Lib.hid hE
 clear hE
 have hb0 : Below w.heap.size w w := Below.refl _ _
 have hb1 := hb0.alloc hb0.size (.cells #[.string s] 9)
 have kt := Blk.new w 9 #[.string s]
 have hb2 := hb1.alloc hb1.size (.cells #[.int .i64 0, .int .i64 0, .slice none 0 0] 30)
 replace kt := kt.alloc (.cells #[.int .i64 0, .int .i64 0, .slice none 0 0] 30)
 have kr := Blk.new (w.alloc (.cells #[.string s] 9)) 30 #[.int .i64 0, .int .i64 0, .slice none 0 0]
 have hb3 := hb2.alloc hb2.size (.cells #[.bool true] 4)
 replace kt := kt.alloc (.cells #[.bool true] 4)
 replace kr := kr.alloc (.cells #[.bool true] 4)
 have kq := Blk.new ((w.alloc (.cells #[.string s] 9)).alloc (.cells #[.int .i64 0, .int .i64 0, .slice none 0 0] 30)) 4 #[.bool true]
 clear hb0 hb1 hb2
 have hb := hb3
 clear hb3
 simp only [World.size_alloc] at kt kr kq
 go_enter Try.func117, Try.ntmps117
 go_upto_region 2 with (fail)
 generalize (((w.alloc (.cells #[.string s] 9)).alloc (.cells #[.int .i64 0, .int .i64 0, .slice none 0 0] 30)).alloc (.cells #[.bool true] 4)) = W0 at *
 obtain ⟨g, hbase⟩ : ∃ g, w.heap.size = g := ⟨_, rfl⟩
 rw [hbase] at hb kt kr kq ⊢
 have hsz : g ≤ W0.heap.size := by have := hb.size; omega
 have lt := kt.lt
 have lr := kr.lt
 have lq := kq.lt
 go_wp2_with fail
 have hc := take_any g (g + 1 + 1) s true W0 kt kq hs
 rw [HX.out] at hc
 refine hc.mono ?_
 clear hc
 rintro e wa ⟨rfl, s1, zt, zq, hd1, hl1, hoa⟩
 simp only at hd1 zq
 replace kt := zt
 clear zt
 replace lt := kt.lt
 replace kr := kr.only hoa (by intro h_; rcases h_ with h_ | h_ <;> omega)
 replace lr := kr.lt
 replace kq := zq
 clear zq
 replace lq := kq.lt
 replace hb := hb.trans (Only.below hoa hsz (fun k h_ => by rcases h_ with rfl | rfl <;> omega))
 replace hsz : g ≤ wa.heap.size := Nat.le_trans hsz hoa.2.2.2.1
 go_wp2_with fail
 have hc := take_any g (g + 1 + 1) s1 (true && !e1) wa kt kq (by omega)
 rw [hd1, HY.out] at hc
 refine hc.mono ?_
 clear hc
 rintro e wb ⟨rfl, s2, zt, zq, hd2, hl2, hob⟩
 simp only at hd2 zq
 rw [Hb.out] at zq
 replace kt := zt
 clear zt
 replace lt := kt.lt
 replace kr := kr.only hob (by intro h_; rcases h_ with h_ | h_ <;> omega)
 replace lr := kr.lt
 replace kq := zq
 clear zq
 replace lq := kq.lt
 replace hb := hb.trans (Only.below hob hsz (fun k h_ => by rcases h_ with rfl | rfl <;> omega))
 replace hsz : g ≤ wb.heap.size := Nat.le_trans hsz hob.2.2.2.1
 go_upto_region 3 with (fail)
 replace kt := kt.alloc (.cells #[.int .i64 x1, .int .i64 x2, .slice none 0 0] 30)
 replace kr := kr.alloc (.cells #[.int .i64 x1, .int .i64 x2, .slice none 0 0] 30)
 replace kq := kq.alloc (.cells #[.int .i64 x1, .int .i64 x2, .slice none 0 0] 30)
 have kv := Blk.new wb 30 #[.int .i64 x1, .int .i64 x2, .slice none 0 0]
 replace hb := hb.alloc hsz (.cells #[.int .i64 x1, .int .i64 x2, .slice none 0 0] 30)
 have hs1 : (wb.alloc (.cells #[.int .i64 x1, .int .i64 x2, .slice none 0 0] 30)).heap.size = wb.heap.size + 1 := World.size_alloc _ _
 obtain ⟨U1, hU_⟩ : ∃ U_, (wb.alloc (.cells #[.int .i64 x1, .int .i64 x2, .slice none 0 0] 30)) = U_ := ⟨_, rfl⟩
 rw [hU_] at kt kr kq hb kv hs1 ⊢
 clear hU_
 obtain ⟨y, hey⟩ : ∃ y, wb.heap.size = y := ⟨_, rfl⟩
 rw [hey] at kv ⊢
 have nb1 : g ≤ y := by omega
 replace hsz : g ≤ U1.heap.size := by omega
 have nq1_t : g < y := by omega
 have nq1_r : g + 1 < y := by omega
 have nq1_q : g + 1 + 1 < y := by omega
 have lv := kv.lt
 have ct_0 := kt.cell 0
 go_wp2_with fail
 clear ct_0
 have hc := cread_any s2 U1 (by omega)
 rw [hd2, HL.out, HE.out] at hc
 refine hc.mono ?_
 clear hc
 rintro e wr ⟨vd, rfl, hod, hvr⟩
 obtain ⟨n, hn⟩ : ∃ n, L.length = n := ⟨_, rfl⟩
 obtain ⟨A, c, rfl⟩ := hod.form_ (n := n) hn
 have Hn := Lib.hid hn
 obtain ⟨Z, hZ⟩ : ∃ Z, U1.heap.size = Z := ⟨_, rfl⟩
 rw [hZ] at hod
 have hgZ : g ≤ Z := by omega
 clear hn
 replace kt := kt.below hvr kt.lt
 replace lt := kt.lt
 replace kr := kr.below hvr kr.lt
 replace lr := kr.lt
 replace kq := kq.below hvr kq.lt
 replace lq := kq.lt
 replace kv := kv.below hvr kv.lt
 replace lv := kv.lt
 replace hb := hb.trans (hvr.mono hsz)
 replace hsz : g ≤ wr.heap.size := Nat.le_trans hsz hvr.size
 clear hvr
 have oD := Lib.hid hod
 clear hod
 have cv_2 := kv.cell 2
 have fv_2 := kv.frozen 2
 go_upto_region 5 with (fail)
 clear cv_2 fv_2
 have ho2 : Only wr (wr.setCell ⟨y, 2, none⟩ (.slice A n c)) (fun k => k = y) := (Only.setCell (S := fun k => k = y) wr ⟨y, 2, none⟩ (.slice A n c) (by simp))
 replace oD := Lib.hid (own_only oD.out ho2 (fun k hk h_ => by rcases h_ with rfl <;> first | exact own_blk_ne oD.out kv (by decide) hk))
 replace kt : Blk (wr.setCell ⟨y, 2, none⟩ (.slice A n c)) g 9 #[.string s2] := (kt.far (p := ⟨y, 2, none⟩) (by simp only; omega) (.slice A n c))
 replace kr : Blk (wr.setCell ⟨y, 2, none⟩ (.slice A n c)) (g + 1) 30 #[.int .i64 0, .int .i64 0, .slice none 0 0] := (kr.far (p := ⟨y, 2, none⟩) (by simp only; omega) (.slice A n c))
 replace kq : Blk (wr.setCell ⟨y, 2, none⟩ (.slice A n c)) (g + 1 + 1) 4 #[.bool true] := (kq.far (p := ⟨y, 2, none⟩) (by simp only; omega) (.slice A n c))
 replace kv : Blk (wr.setCell ⟨y, 2, none⟩ (.slice A n c)) y 30 #[.int .i64 x1, .int .i64 x2, .slice A n c] := (kv.set_ 2 (.slice A n c))
 replace hb : Below g w (wr.setCell ⟨y, 2, none⟩ (.slice A n c)) := (hb.setCell (p := ⟨y, 2, none⟩) (by simp only; omega) (.slice A n c))
 have hs2 : (wr.setCell ⟨y, 2, none⟩ (.slice A n c)).heap.size = wr.heap.size := by simp
 obtain ⟨U2, hU_⟩ : ∃ U_, (wr.setCell ⟨y, 2, none⟩ (.slice A n c)) = U_ := ⟨_, rfl⟩
 rw [hU_] at kt kr kq kv oD hb ho2 hs2 ⊢
 clear hU_
 replace hsz : g ≤ U2.heap.size := by omega
 replace lt := kt.lt
 replace lr := kr.lt
 replace lq := kq.lt
 replace lv := kv.lt
 refine wp_region_held (S := fun w' => (Blk w' y 30 #[.int .i64 x1, .int .i64 x2, .slice A n c] ∧ w'.cell? ⟨g + 1 + 1, 0, none⟩ = some (.bool true))) (by kernel_rfl) ?_
 have hS : (Blk U2.drew y 30 #[.int .i64 x1, .int .i64 x2, .slice A n c] ∧ U2.drew.cell? ⟨g + 1 + 1, 0, none⟩ = some (.bool true)) := ⟨kv.drew, kq.drew.cell 0⟩
 change wpAnyH _ _ _ _ _ _ _ _ U2.drew
 refine tkZ 18 0 rfl rfl (.agg #[.int .i64 x1, .int .i64 x2, .slice A n c]) (.inl ⟨rfl, fun w' h' => exec_load_blk _ _ rfl y rfl _ (rev_row h'.1 rfl)⟩) hS ?_
 simp only [Act.put, zA, zB, zC]
 refine tkZ 19 1 rfl rfl (.bool true) (.inl ⟨rfl, fun w' h' => by obtain ⟨-, h1⟩ := h'; go_simp⟩) hS ?_
 simp only [Act.put, zA, zB, zC]
 refine tkZ 20 2 rfl rfl (.bool true) (.inl ⟨rfl, fun w' h' => by go_simp⟩) hS ?_
 simp only [Act.put, zA, zB, zC]
 refine tkZ 21 3 rfl rfl (.int .i64 0) (.inl ⟨rfl, fun w' h' => by go_simp⟩) hS ?_
 simp only [Act.put, zA, zB, zC]
 refine tkZ 22 4 rfl rfl (.bool true) (.inl ⟨rfl, fun w' h' => by go_simp⟩) hS ?_
 simp only [Act.put, zA, zB, zC]
 refine tkZ 23 5 rfl rfl (.bool true) (.inl ⟨rfl, fun w' h' => by go_simp⟩) hS ?_
 simp only [Act.put, zA, zB, zC]
 refine tkZ 24 6 rfl rfl (.bool true) (.inl ⟨rfl, fun w' h' => by go_simp⟩) hS ?_
 simp only [Act.put, zA, zB, zC]
 refine tkZ 25 7 rfl rfl (.agg #[.int .i64 x1, .int .i64 x2, .slice A n c]) (.inl ⟨rfl, fun w' h' => exec_load_blk _ _ rfl y rfl _ (rev_row h'.1 rfl)⟩) hS ?_
 simp only [Act.put, zA, zB, zC]
 refine wpAnyH_all (rs := [8]) (by kernel_rfl) (List.cons_ne_nil _ _) (fun i8 hi8 => ?_)
 obtain rfl := List.mem_singleton.1 hi8
 refine wpOp_enter 26 rfl rfl rfl 100 #[.agg #[.int .i64 x1, .int .i64 x2, .slice A n c]] (by go_simp) (.int .i64 O) (fun w' => Below U2.drew.heap.size U2.drew w') (one_any x1 x2 L A n c _ O _ (rdSx oD.out HLs.out) (Nat.le_refl _) HO.out) ?_
 intro wo hvo
 simp only [Act.put, zA, zB, zC]
 have hvo2 : Below U2.heap.size U2 wo := ⟨hvo.os, hvo.tape, hvo.output, hvo.size, hvo.block⟩
 clear hvo hS
 replace kt := kt.below hvo2 kt.lt
 replace lt := kt.lt
 replace kr := kr.below hvo2 kr.lt
 replace lr := kr.lt
 replace kq := kq.below hvo2 kq.lt
 replace lq := kq.lt
 replace kv := kv.below hvo2 kv.lt
 replace lv := kv.lt
 replace oD := Lib.hid (own_below oD.out hvo2)
 replace hb := hb.trans (hvo2.mono hsz)
 replace hsz : g ≤ wo.heap.size := Nat.le_trans hsz hvo2.size
 clear hvo2
 have hS : (Blk wo y 30 #[.int .i64 x1, .int .i64 x2, .slice A n c] ∧ wo.cell? ⟨g + 1 + 1, 0, none⟩ = some (.bool true)) := ⟨kv, kq.cell 0⟩
 refine ⟨hS, ?_⟩
 refine tkZ 27 9 rfl rfl (.bool (O == 0)) (.inl ⟨rfl, fun w' h' => by go_simp⟩) hS ?_
 simp only [Act.put, zA, zB, zC]
 refine tkZ 28 10 rfl rfl (.bool (O == 0)) (.inl ⟨rfl, fun w' h' => by go_simp⟩) hS ?_
 simp only [Act.put, zA, zB, zC]
 refine wpAnyH_all (rs := [11]) (by kernel_rfl) (List.cons_ne_nil _ _) (fun i11 hi11 => ?_)
 obtain rfl := List.mem_singleton.1 hi11
 refine wpOp_store_blk rfl rfl rfl _ (.tmp 2) (.tmp 18) rfl (g + 1) #[.int .i64 x1, .int .i64 x2, .slice A n c] (by kernel_rfl) (by kernel_rfl) _ _ kr rev_info rfl (by simp [Value.oneCell']) ?_
 have S1 := (kv).farRow (g' := g + 1) (by omega) #[.int .i64 x1, .int .i64 x2, .slice A n c]
 have S3 := (kq).farRow (g' := g + 1) (by omega) #[.int .i64 x1, .int .i64 x2, .slice A n c]
 have S4 := (kr).row #[.int .i64 x1, .int .i64 x2, .slice A n c]
 have S5 := below_setRow (hb) (g + 1) #[.int .i64 x1, .int .i64 x2, .slice A n c] (by omega)
 have hzo := Only.setRow (wo) (g + 1) #[.int .i64 x1, .int .i64 x2, .slice A n c]
 have oz : (wo).ownsRow Z 88 3 (.slice A n c) L.length (pc L) := oD.out
 have S6 := own_only oz hzo (fun k hk h_ => by rcases h_ with rfl; exact own_blk_ne oD.out kr (by decide) hk)
 clear hS
 have hS := And.intro S1 (S3.cell 0)
 refine ⟨hS, ?_⟩
 refine tkZ 3 12 rfl rfl (.bool (O == 0)) (.inl ⟨rfl, fun w' h' => by go_simp⟩) hS ?_
 simp only [Act.put, zA, zB, zC]
 refine wpAnyH_done (by kernel_rfl) ?_ _
 go_wp2_with fail
 refine row_end2 rfl rfl rfl rfl (rev_row S4 rfl) ?_
 exact ⟨A, n, c, rfl, own_base S6 (by omega), Hn.out.symm, hbase ▸ S5⟩
theorem rev_any (s : ByteArray) (w : World) (hs : s.size ≤ 140737488351232) :
 Calls Try.prog 117 #[.string s] w fun e w' => ∃ A n c, e = .returned (.tuple #[.agg #[.int .i64 (rvV s.data.toList).1, .int .i64 (rvV s.data.toList).2.1, .slice A n c], .bool (rvOk s.data.toList)]) ∧ OwnP w' w.heap.size (.slice A n c) (rvV s.data.toList).2.2 ∧ n = (rvV s.data.toList).2.2.length ∧ Below w.heap.size w w' := by
 rcases hx : rN s.data.toList with ⟨x1, r1, e1⟩
 rcases hy : rN r1 with ⟨x2, r2, e2⟩
 have hv : rvV s.data.toList = ((x1 : Int), (x2 : Int), readL r2) := by unfold rvV; rw [hx]; simp only; rw [hy]
 have ho : rvOk s.data.toList = (!e1 && !e2 && decide (readE r2 = 0) && decide (oneE (x1, x2, readL r2) = 0)) := by unfold rvOk; rw [hv, hx]; simp only; rw [hy]
 rw [hv, ho]
 by_cases hb : (true && !e1 && !e2) = true
 · have hb2 : (!e1 && !e2) = true := by simpa using hb
   rcases read_cases r2 with hE | hE
   · have e : (!e1 && !e2 && decide (readE r2 = 0) && decide (oneE (x1, x2, readL r2) = 0)) = (oneE (x1, x2, readL r2) == 0) := by rw [hb2, hE]; simp; rfl
     rw [e]
     exact rev_one s w hs x1 x2 r1 r2 e1 e2 hx hy _ rfl hb hE _ rfl
   · have e : (!e1 && !e2 && decide (readE r2 = 0) && decide (oneE (x1, x2, readL r2) = 0)) = false := by rw [hb2, hE]; simp
     rw [e]
     exact rev_code s w hs x1 x2 r1 r2 e1 e2 hx hy _ rfl hb hE
 · have hb3 : (true && !e1 && !e2) = false := by simpa using hb
   have hb2 : (!e1 && !e2) = false := by simpa using hb3
   rw [hb2, Bool.false_and, Bool.false_and]
   exact rev_bad s w hs x1 x2 r1 r2 e1 e2 hx hy _ rfl hb3
end Go.Proofs.Ytokngfinnieccaa
