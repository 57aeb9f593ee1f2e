/- Contract of client.Out. -/
import Derived.Test.YtokngfinnieccaaO17
import Derived.StillTailTactics
namespace Go.Proofs.Ytokngfinnieccaa
open Go.ChangeShapes Go.WideShapes Go.RowKit
set_option linter.unusedVariables false
set_option linter.unusedSimpArgs false
set_option maxRecDepth 100000
set_option maxHeartbeats 4000000
theorem step_app_partsC {ops : Array Oper} {o : Oper} {a : Act} {K : Act → World → Prop} {Q : Exit → Act → World → Prop} {E : Prop} (w : World) (hgd : o.guard = none) (s x : Operand)
 (ho : o.op = .call { callee := .builtin .append, args := #[s, x], argTypes := #[25, 25] })
 (B : Nat) (v : Value) (l : List Pt) (hs : a.eval s = v) (hown : OwnP w B v l)
 (A : Option Addr) (m c B' : Nat) (l' : List Pt) (hx : a.eval x = .slice A m c) (hr : RdP w B' A m c l')
 (hn : l.length + m ≤ 4000000) (hB : B ≤ w.heap.size)
 (h : ∀ v' w', OwnP w' B v' (l ++ l') → Below B w w' → w.grownBy w' v.ownBlock → K (a.put o.dst v') w') :
 if Region.wanted o (yielded ops a.tmps) = true then Oper.wp Try.prog o a w K Q else E := by
 obtain ⟨i0, hi, hz0, hz1, hz2⟩ := info_parts Try.info_part
 refine step_append_any w hgd s x 25 ho B 88 i0 _ 3 32 Try.underlying25 hi hz0 hz1 hz2 rfl (by omega) v _ _ hs hown B' A m c (pc l') hx ?_ ?_ (by simp only [maxLen]; omega) (by omega) hB ?_
 · refine ⟨by rw [pc_len, hr.1], fun h0 => ?_⟩
   obtain ⟨b, o', e, hb, hc⟩ := hr.2.1.2.2.2 h0
   refine ⟨_, e, hb, fun j u hj => ?_⟩
   have := hc j u hj
   by_cases h00 : j = 0
   · subst h00; simpa [Addr.add] using this
   · simpa [Addr.add, h00] using this
 · exact pc_one l'
 · intro v' w' h2 h3 h4
   exact h v' w' (by unfold OwnP; rw [pc_append, List.length_append, ← hr.1]; exact h2) (below_grown h3 hB (own_ge hown)) h3
theorem msg_info : (Try.prog.info? 82).map (·.size) = some 4 := by kernel_rfl
theorem msg_row {W : World} {g : Nat} {cs : Array Value} (h : Blk W g 82 cs) (hs : cs.size = 4) : (loadVar 82 ⟨g, 0, none⟩).run Try.prog W = .ok (.agg cs) W :=
 run_loadVar_row (P := Try.prog) W g 82 82 _ _ _ h Try.underlying82 rfl (by rw [hs]; kernel_rfl)
def mgv (b a s : Int) (d : Sl) : Value := .agg #[.int .i64 b, .int .i64 a, .int .i64 s, .slice d.1 d.2.1 d.2.2]
theorem cout_F (a r sq : Int) (t : ByteArray) (f q : Bool) (S H : List Pt) (A A' : Option Addr) (n n' cp cp' : Nat) (w : World) (hk : CkOk ⟨a, r, sq, t, f, S, q, H⟩)
 (hS : RdP w w.heap.size A n cp S) (hH : RdP w w.heap.size A' n' cp' H) (hn : n ≤ 4000000) (hf : f = false) :
 Calls Try.prog 104 #[.agg #[.int .i64 a, .int .i64 r, .int .i64 sq, .string t, .bool f, .slice A n cp, .bool q, .slice A' n' cp']] w fun e w' => e = .returned (.tuple #[mgv 0 0 0 (none, 0, 0), .int .i64 7]) ∧ Below w.heap.size w w' := by
 subst hf
 have Hk := Lib.hid hk
 have HS := Lib.hid hS
 have HH := Lib.hid hH
 clear hk hS hH
 have hb0 : Below w.heap.size w w := Below.refl _ _
 have hb1 := hb0.alloc hb0.size (.cells #[.int .i64 a, .int .i64 r, .int .i64 sq, .string t, .bool false, .slice A n cp, .bool q, .slice A' n' cp'] 92)
 have kc := Blk.new w 92 #[.int .i64 a, .int .i64 r, .int .i64 sq, .string t, .bool false, .slice A n cp, .bool q, .slice A' n' cp']
 have hb2 := hb1.alloc hb1.size (.cells #[.int .i64 0, .int .i64 0, .int .i64 0, .slice none 0 0] 82)
 replace kc := kc.alloc (.cells #[.int .i64 0, .int .i64 0, .int .i64 0, .slice none 0 0] 82)
 have kr := Blk.new (w.alloc (.cells #[.int .i64 a, .int .i64 r, .int .i64 sq, .string t, .bool false, .slice A n cp, .bool q, .slice A' n' cp'] 92)) 82 #[.int .i64 0, .int .i64 0, .int .i64 0, .slice none 0 0]
 clear hb0 hb1
 have hb := hb2
 clear hb2
 simp only [World.size_alloc] at kc kr
 go_enter Try.func104, Try.ntmps104
 go_upto_region 1 with (fail)
 generalize ((w.alloc (.cells #[.int .i64 a, .int .i64 r, .int .i64 sq, .string t, .bool false, .slice A n cp, .bool q, .slice A' n' cp'] 92)).alloc (.cells #[.int .i64 0, .int .i64 0, .int .i64 0, .slice none 0 0] 82)) = W0 at *
 obtain ⟨g, hbase⟩ : ∃ g, w.heap.size = g := ⟨_, rfl⟩
 rw [hbase] at hb kc kr ⊢
 have hsz : g ≤ W0.heap.size := by have := hb.size; omega
 have lc := kc.lt
 have lr := kr.lt
 have HS := Lib.hid (hbase ▸ HS.out)
 have HH := Lib.hid (hbase ▸ HH.out)
 go_wp2_with (first | (refine wpList_load_blk rfl _ (.tmp 1) rfl g rfl _ (client_row kc rfl) ?_))
 refine (ccheck_good ⟨a, r, sq, t, false, S, q, H⟩ (A, n, cp) (A', n', cp') W0 Hk.out ((HS.out.below hb).more hsz) ((HH.out.below hb).more hsz)).mono ?_
 rintro e v1 ⟨rfl, hv1⟩
 replace kc := kc.below hv1 kc.lt
 replace lc := kc.lt
 replace kr := kr.below hv1 kr.lt
 replace lr := kr.lt
 replace hb := hb.trans (hv1.mono hsz)
 replace hsz : g ≤ v1.heap.size := Nat.le_trans hsz hv1.size
 clear hv1
 have cc_4 := kc.cell 4
 go_wp2_with (first | (refine wpList_store_blk rfl _ (.tmp 2) (.tmp 14) rfl (g + 1) #[.int .i64 0, .int .i64 0, .int .i64 0, .slice none 0 0] rfl rfl _ _ kr msg_info rfl (by simp [Value.oneCell']) ?_))
 have kz := kr.row #[.int .i64 0, .int .i64 0, .int .i64 0, .slice none 0 0]
 have hz := below_setRow hb (g + 1) #[.int .i64 0, .int .i64 0, .int .i64 0, .slice none 0 0] (by omega)
 refine row_end2 rfl rfl rfl rfl (msg_row kz rfl) ?_
 exact ⟨rfl, hbase ▸ hz⟩
theorem cout_T (a r sq : Int) (t : ByteArray) (f q : Bool) (S H : List Pt) (A A' : Option Addr) (n n' cp cp' : Nat) (w : World) (hk : CkOk ⟨a, r, sq, t, f, S, q, H⟩)
 (hS : RdP w w.heap.size A n cp S) (hH : RdP w w.heap.size A' n' cp' H) (hn : n ≤ 4000000) (hf : f = true) :
 Calls Try.prog 104 #[.agg #[.int .i64 a, .int .i64 r, .int .i64 sq, .string t, .bool f, .slice A n cp, .bool q, .slice A' n' cp']] w fun e w' => ∃ d1 : Sl, e = .returned (.tuple #[mgv r a sq d1, .int .i64 0]) ∧ OwnP w' w.heap.size (.slice d1.1 d1.2.1 d1.2.2) S ∧ Below w.heap.size w w' := by
 subst hf
 have Hk := Lib.hid hk
 have HS := Lib.hid hS
 have HH := Lib.hid hH
 clear hk hS hH
 have hb0 : Below w.heap.size w w := Below.refl _ _
 have hb1 := hb0.alloc hb0.size (.cells #[.int .i64 a, .int .i64 r, .int .i64 sq, .string t, .bool true, .slice A n cp, .bool q, .slice A' n' cp'] 92)
 have kc := Blk.new w 92 #[.int .i64 a, .int .i64 r, .int .i64 sq, .string t, .bool true, .slice A n cp, .bool q, .slice A' n' cp']
 have hb2 := hb1.alloc hb1.size (.cells #[.int .i64 0, .int .i64 0, .int .i64 0, .slice none 0 0] 82)
 replace kc := kc.alloc (.cells #[.int .i64 0, .int .i64 0, .int .i64 0, .slice none 0 0] 82)
 have kr := Blk.new (w.alloc (.cells #[.int .i64 a, .int .i64 r, .int .i64 sq, .string t, .bool true, .slice A n cp, .bool q, .slice A' n' cp'] 92)) 82 #[.int .i64 0, .int .i64 0, .int .i64 0, .slice none 0 0]
 clear hb0 hb1
 have hb := hb2
 clear hb2
 simp only [World.size_alloc] at kc kr
 go_enter Try.func104, Try.ntmps104
 go_upto_region 1 with (fail)
 generalize ((w.alloc (.cells #[.int .i64 a, .int .i64 r, .int .i64 sq, .string t, .bool true, .slice A n cp, .bool q, .slice A' n' cp'] 92)).alloc (.cells #[.int .i64 0, .int .i64 0, .int .i64 0, .slice none 0 0] 82)) = W0 at *
 obtain ⟨g, hbase⟩ : ∃ g, w.heap.size = g := ⟨_, rfl⟩
 rw [hbase] at hb kc kr ⊢
 have hsz : g ≤ W0.heap.size := by have := hb.size; omega
 have lc := kc.lt
 have lr := kr.lt
 have HS := Lib.hid (hbase ▸ HS.out)
 have HH := Lib.hid (hbase ▸ HH.out)
 go_wp2_with (first | (refine wpList_load_blk rfl _ (.tmp 1) rfl g rfl _ (client_row kc rfl) ?_))
 refine (ccheck_good ⟨a, r, sq, t, true, S, q, H⟩ (A, n, cp) (A', n', cp') W0 Hk.out ((HS.out.below hb).more hsz) ((HH.out.below hb).more hsz)).mono ?_
 rintro e v1 ⟨rfl, hv1⟩
 replace kc := kc.below hv1 kc.lt
 replace lc := kc.lt
 replace kr := kr.below hv1 kr.lt
 replace lr := kr.lt
 replace hb := hb.trans (hv1.mono hsz)
 replace hsz : g ≤ v1.heap.size := Nat.le_trans hsz hv1.size
 clear hv1
 have cc_4 := kc.cell 4
 go_upto_region 6 with (fail)
 clear cc_4
 have hszW := hsz
 have KeepS : Hid (∀ w', Below v1.heap.size v1 w' → (Below g v1 w' ∧ w'.cell? ⟨g, 0, none⟩ = some (.int .i64 a) ∧ w'.cell? ⟨g, 1, none⟩ = some (.int .i64 r) ∧ w'.cell? ⟨g, 2, none⟩ = some (.int .i64 sq) ∧ w'.cell? ⟨g, 5, none⟩ = some (.slice A n cp))) := Lib.hid fun w' h => by
  have q := kc.below h kc.lt
  exact ⟨h.mono hsz, q.cell 0, q.cell 1, q.cell 2, q.cell 5⟩
 have Keep4 : Hid (∀ w' u0 u1 u2 u3, Below v1.heap.size v1 w' → (Below g v1 ((((w'.setCell ⟨g + 1, 0, none⟩ u0).setCell ⟨g + 1, 1, none⟩ u1).setCell ⟨g + 1, 2, none⟩ u2).setCell ⟨g + 1, 3, none⟩ u3) ∧ ((((w'.setCell ⟨g + 1, 0, none⟩ u0).setCell ⟨g + 1, 1, none⟩ u1).setCell ⟨g + 1, 2, none⟩ u2).setCell ⟨g + 1, 3, none⟩ u3).cell? ⟨g, 0, none⟩ = some (.int .i64 a) ∧ ((((w'.setCell ⟨g + 1, 0, none⟩ u0).setCell ⟨g + 1, 1, none⟩ u1).setCell ⟨g + 1, 2, none⟩ u2).setCell ⟨g + 1, 3, none⟩ u3).cell? ⟨g, 1, none⟩ = some (.int .i64 r) ∧ ((((w'.setCell ⟨g + 1, 0, none⟩ u0).setCell ⟨g + 1, 1, none⟩ u1).setCell ⟨g + 1, 2, none⟩ u2).setCell ⟨g + 1, 3, none⟩ u3).cell? ⟨g, 2, none⟩ = some (.int .i64 sq) ∧ ((((w'.setCell ⟨g + 1, 0, none⟩ u0).setCell ⟨g + 1, 1, none⟩ u1).setCell ⟨g + 1, 2, none⟩ u2).setCell ⟨g + 1, 3, none⟩ u3).cell? ⟨g, 5, none⟩ = some (.slice A n cp))) := Lib.hid fun w' u0 u1 u2 u3 h => by
  have q := ((((kc.below h kc.lt).far (p := ⟨g + 1, 0, none⟩) (by simp) u0).far (p := ⟨g + 1, 1, none⟩) (by simp) u1).far (p := ⟨g + 1, 2, none⟩) (by simp) u2).far (p := ⟨g + 1, 3, none⟩) (by simp) u3
  exact ⟨((((h.mono hsz).setCell (p := ⟨g + 1, 0, none⟩) (by simp) u0).setCell (p := ⟨g + 1, 1, none⟩) (by simp) u1).setCell (p := ⟨g + 1, 2, none⟩) (by simp) u2).setCell (p := ⟨g + 1, 3, none⟩) (by simp) u3, q.cell 0, q.cell 1, q.cell 2, q.cell 5⟩
 have GR : Hid (∀ w', (Below g v1 w' ∧ w'.cell? ⟨g, 0, none⟩ = some (.int .i64 a) ∧ w'.cell? ⟨g, 1, none⟩ = some (.int .i64 r) ∧ w'.cell? ⟨g, 2, none⟩ = some (.int .i64 sq) ∧ w'.cell? ⟨g, 5, none⟩ = some (.slice A n cp)) → RdP w' g A n cp S) := Lib.hid fun w' h => (HS.out.below hb).below h.1
 have GZ : Hid (∀ w', (Below g v1 w' ∧ w'.cell? ⟨g, 0, none⟩ = some (.int .i64 a) ∧ w'.cell? ⟨g, 1, none⟩ = some (.int .i64 r) ∧ w'.cell? ⟨g, 2, none⟩ = some (.int .i64 sq) ∧ w'.cell? ⟨g, 5, none⟩ = some (.slice A n cp)) → v1.heap.size ≤ w'.heap.size) := Lib.hid fun w' h => h.1.size
 have Hn : Hid (([] : List Pt).length + n ≤ 4000000) := Lib.hid (by simp; omega)
 have Hln := Lib.hid HS.out.1.symm
 have hS0 : (Below g v1 v1 ∧ v1.cell? ⟨g, 0, none⟩ = some (.int .i64 a) ∧ v1.cell? ⟨g, 1, none⟩ = some (.int .i64 r) ∧ v1.cell? ⟨g, 2, none⟩ = some (.int .i64 sq) ∧ v1.cell? ⟨g, 5, none⟩ = some (.slice A n cp)) := KeepS.out _ (Below.refl _ _)
 go_region_held3 (fun w' => (Below g v1 w' ∧ w'.cell? ⟨g, 0, none⟩ = some (.int .i64 a) ∧ w'.cell? ⟨g, 1, none⟩ = some (.int .i64 r) ∧ w'.cell? ⟨g, 2, none⟩ = some (.int .i64 sq) ∧ w'.cell? ⟨g, 5, none⟩ = some (.slice A n cp))) (first | with_reducible assumption | exact KeepS.out _ (Below.drew (Below.refl _ _)) | exact KeepS.out _ (by assumption) | exact KeepS.out _ (Below.drew (by assumption)) | exact Keep4.out _ _ _ _ _ (by assumption) | (go_split_ands; exact KeepS.out _ (by assumption)))
  ((first | (refine step_app_partsC _ rfl (.const (.slice none 0 0)) (.tmp 22) rfl v1.heap.size _ [] rfl (OwnP.nil _ _) A n cp _ S rfl (GR.out _ (by assumption)) Hn.out (GZ.out _ (by assumption)) ?_; intro vd wd qd hvd hgd; rw [List.nil_append] at qd; (first | (have hwd := Below.trans (Below.drew (Below.refl v1.heap.size v1)) hvd) | (have hwd := Below.trans (Below.refl v1.heap.size v1) hvd) | (have hwd := Below.trans (And.left (by assumption)) hvd)); obtain ⟨A5, c5, rfl⟩ := qd.form_ (n := n) Hln.out; have gS := KeepS.out wd hwd; have kr_ := kr.below hwd kr.lt; have s0 := kr_.cell 0; have s1 := kr_.cell 1; have s2 := kr_.cell 2; have s3 := kr_.cell 3; have t0 := kr_.frozen 0; have t1 := kr_.frozen 1; have t2 := kr_.frozen 2; have t3 := kr_.frozen 3; have lr_ := kr_.lt)))
 clear kr_ s0 s1 s2 s3 t0 t1 t2 t3 lr_ KeepS Keep4 GR GZ hS0 gS hvd hgd
 replace kc := kc.below hwd kc.lt
 replace lc := kc.lt
 replace kr := kr.below hwd kr.lt
 replace lr := kr.lt
 replace hb := hb.trans (hwd.mono hsz)
 replace hsz : g ≤ wd.heap.size := Nat.le_trans hsz hwd.size
 clear hwd
 have oD := Lib.hid qd
 clear qd
 have ho2 : Only wd ((((wd.setCell ⟨g + 1, 0, none⟩ (.int .i64 r)).setCell ⟨g + 1, 1, none⟩ (.int .i64 a)).setCell ⟨g + 1, 2, none⟩ (.int .i64 sq)).setCell ⟨g + 1, 3, none⟩ (.slice A5 n c5)) (fun k => k = g + 1) := ((((Only.setCell (S := fun k => k = g + 1) wd ⟨g + 1, 0, none⟩ (.int .i64 r) (by simp)).trans (Only.setCell (S := fun k => k = g + 1) (wd.setCell ⟨g + 1, 0, none⟩ (.int .i64 r)) ⟨g + 1, 1, none⟩ (.int .i64 a) (by simp))).trans (Only.setCell (S := fun k => k = g + 1) ((wd.setCell ⟨g + 1, 0, none⟩ (.int .i64 r)).setCell ⟨g + 1, 1, none⟩ (.int .i64 a)) ⟨g + 1, 2, none⟩ (.int .i64 sq) (by simp))).trans (Only.setCell (S := fun k => k = g + 1) (((wd.setCell ⟨g + 1, 0, none⟩ (.int .i64 r)).setCell ⟨g + 1, 1, none⟩ (.int .i64 a)).setCell ⟨g + 1, 2, none⟩ (.int .i64 sq)) ⟨g + 1, 3, none⟩ (.slice A5 n c5) (by simp)))
 replace oD := Lib.hid (own_only oD.out ho2 (fun k hk h_ => by rcases h_ with rfl <;> first | exact own_blk_ne oD.out kr (by decide) hk))
 replace kc : Blk ((((wd.setCell ⟨g + 1, 0, none⟩ (.int .i64 r)).setCell ⟨g + 1, 1, none⟩ (.int .i64 a)).setCell ⟨g + 1, 2, none⟩ (.int .i64 sq)).setCell ⟨g + 1, 3, none⟩ (.slice A5 n c5)) g 92 #[.int .i64 a, .int .i64 r, .int .i64 sq, .string t, .bool true, .slice A n cp, .bool q, .slice A' n' cp'] := ((((kc.far (p := ⟨g + 1, 0, none⟩) (by simp only; omega) (.int .i64 r)).far (p := ⟨g + 1, 1, none⟩) (by simp only; omega) (.int .i64 a)).far (p := ⟨g + 1, 2, none⟩) (by simp only; omega) (.int .i64 sq)).far (p := ⟨g + 1, 3, none⟩) (by simp only; omega) (.slice A5 n c5))
 replace kr : Blk ((((wd.setCell ⟨g + 1, 0, none⟩ (.int .i64 r)).setCell ⟨g + 1, 1, none⟩ (.int .i64 a)).setCell ⟨g + 1, 2, none⟩ (.int .i64 sq)).setCell ⟨g + 1, 3, none⟩ (.slice A5 n c5)) (g + 1) 82 #[.int .i64 r, .int .i64 a, .int .i64 sq, .slice A5 n c5] := ((((kr.set_ 0 (.int .i64 r)).set_ 1 (.int .i64 a)).set_ 2 (.int .i64 sq)).set_ 3 (.slice A5 n c5))
 replace hb : Below g w ((((wd.setCell ⟨g + 1, 0, none⟩ (.int .i64 r)).setCell ⟨g + 1, 1, none⟩ (.int .i64 a)).setCell ⟨g + 1, 2, none⟩ (.int .i64 sq)).setCell ⟨g + 1, 3, none⟩ (.slice A5 n c5)) := ((((hb.setCell (p := ⟨g + 1, 0, none⟩) (by simp only; omega) (.int .i64 r)).setCell (p := ⟨g + 1, 1, none⟩) (by simp only; omega) (.int .i64 a)).setCell (p := ⟨g + 1, 2, none⟩) (by simp only; omega) (.int .i64 sq)).setCell (p := ⟨g + 1, 3, none⟩) (by simp only; omega) (.slice A5 n c5))
 have hs2 : ((((wd.setCell ⟨g + 1, 0, none⟩ (.int .i64 r)).setCell ⟨g + 1, 1, none⟩ (.int .i64 a)).setCell ⟨g + 1, 2, none⟩ (.int .i64 sq)).setCell ⟨g + 1, 3, none⟩ (.slice A5 n c5)).heap.size = wd.heap.size := by simp
 generalize ((((wd.setCell ⟨g + 1, 0, none⟩ (.int .i64 r)).setCell ⟨g + 1, 1, none⟩ (.int .i64 a)).setCell ⟨g + 1, 2, none⟩ (.int .i64 sq)).setCell ⟨g + 1, 3, none⟩ (.slice A5 n c5)) = U2 at *
 replace hsz : g ≤ U2.heap.size := by omega
 replace lc := kc.lt
 replace lr := kr.lt
 go_wp2_with fail
 refine row_end2 rfl rfl rfl rfl (msg_row kr rfl) ?_
 exact ⟨(A5, n, c5), rfl, own_base oD.out (by omega), hbase ▸ hb⟩
theorem cout_good (c : Cl) (s h : Sl) (w : World) (hk : CkOk c) (hS : RdP w w.heap.size s.1 s.2.1 s.2.2 c.sent) (hH : RdP w w.heap.size h.1 h.2.1 h.2.2 c.held) (hn : s.2.1 ≤ 4000000) (hf : c.fly = true) :
 Calls Try.prog 104 #[clv c s h] w fun e w' => ∃ d1 : Sl, e = .returned (.tuple #[mgv c.rev c.who c.seq d1, .int .i64 0]) ∧ OwnP w' w.heap.size (.slice d1.1 d1.2.1 d1.2.2) c.sent ∧ Below w.heap.size w w' := by
 obtain ⟨a, r, sq, t, f, S, q, H⟩ := c
 exact cout_T a r sq t f q S H s.1 h.1 s.2.1 h.2.1 s.2.2 h.2.2 w hk hS hH hn hf
end Go.Proofs.Ytokngfinnieccaa
