/- Contract of shop.Add while a move is under way. -/
import Derived.Test.YtokngfinnieccaaO12
namespace Go.Proofs.Ytokngfinnieccaa
open Go.ChangeShapes Go.WideShapes Go.RowKit
set_option linter.unusedVariables false
set_option linter.unusedSimpArgs false
set_option maxRecDepth 100000
set_option maxHeartbeats 4000000
def putS (s : Sh) (i : Int) (t : ByteArray) : Sh := { s with d0 := (dapp s.d0 s.d1 i t).1, d1 := (dapp s.d0 s.d1 i t).2.1 }
def addW (s : Sh) (r : Rv) : Sh := { putS (putS s s.at_ (frB r)) ((1 - s.at_ : Nat) : Int) (frB r) with text := doS r.2.2 s.text, log := addL s.log r }
theorem sadd_g0 (q : Nat) (s : Sh) (sl : Sl) (ss : List Sl) (B : Nat) (x : Nat) (b : Int) (d : List Pt) (A : Option Addr) (n c : Nat) (w : World) (hk : Blk w q 134 (shc s sl none)) (h8 : Lg8 s.log) (hsl : sl.2.1 = s.log.revs.length) (hb0 : 0 ≤ s.log.base) (hb1 : s.log.base ≤ 2147483647) (hr : s.log.revs.length ≤ 1000) (hd : RdP w w.heap.size A n c d)
 (hv : OwnV w B (.slice sl.1 sl.2.1 sl.2.2) ss s.log.revs) (hBq : B ≤ q) (hx8 : x < 8) (hts : s.text.size ≤ 500) (he : nextE s.log s.text.size ((x : Int), b, d) = 0) (hl : dlook s.d0 s.d1 s.at_ = 0) :
 Calls Try.prog 42 #[.pointer (some ⟨q, 0, none⟩), .agg #[.int .i64 x, .int .i64 b, .slice A n c]] w fun e w' => e = .returned (.tuple #[.int .i64 (s.log.base + (s.log.revs.length + 1 : Nat)), .int .i64 0]) ∧ ∃ sl' d' : Sl, Blk w' q 134 (shc (addS s ((x : Int), b, d)) sl' none) ∧ OwnV w' B (.slice sl'.1 sl'.2.1 sl'.2.2) (ss ++ [d']) (s.log.revs ++ [((x : Int), b, d)]) ∧ (∀ k, (Value.slice d'.1 d'.2.1 d'.2.2).ownBlock = some k → w.heap.size ≤ k) ∧
  Only w w' (fun k => k = q ∨ (Value.slice sl.1 sl.2.1 sl.2.2).ownBlock = some k) ∧ ((Value.slice sl'.1 sl'.2.1 sl'.2.2).ownBlock = (Value.slice sl.1 sl.2.1 sl.2.2).ownBlock ∨ ∀ k, (Value.slice sl'.1 sl'.2.1 sl'.2.2).ownBlock = some k → w.heap.size ≤ k) := by
 obtain ⟨E, hE0⟩ : ∃ E : Int, 0 = E := ⟨_, rfl⟩
 rw [hE0] at he
 have Hv := Lib.hid hv
 have hvlt := own_lt hv.row
 have hvge := own_ge hv.row
 have Hw0 := Lib.hid (Only.refl w (fun k => k = q ∨ (Value.slice sl.1 sl.2.1 sl.2.2).ownBlock = some k))
 obtain ⟨a, hax⟩ : ∃ a : Int, (x : Int) = a := ⟨_, rfl⟩
 rw [hax] at he ⊢
 obtain ⟨mp, hmp⟩ : ∃ mp : Option Addr, none = mp := ⟨_, rfl⟩
 rw [hmp] at hk ⊢
 clear hv
 have kq := hk.alloc (.cells #[.int .i64 a, .int .i64 b, .slice A n c] 30)
 have kr := Blk.new w 30 #[.int .i64 a, .int .i64 b, .slice A n c]
 have hb := (Below.refl w.heap.size w).alloc (Nat.le_refl _) (.cells #[.int .i64 a, .int .i64 b, .slice A n c] 30)
 have Hd := Lib.hid (hd.stepA (.cells #[.int .i64 a, .int .i64 b, .slice A n c] 30))
 have hqw := hk.lt
 clear hd hk
 go_enter Try.func42, Try.ntmps42
 go_upto_region 1 with (fail)
 obtain ⟨W, hW⟩ : ∃ W, w.alloc (.cells #[.int .i64 a, .int .i64 b, .slice A n c] 30) = W := ⟨_, rfl⟩
 rw [hW] at kq kr hb Hd ⊢
 clear hW
 obtain ⟨g, hg⟩ : ∃ g, w.heap.size = g := ⟨_, rfl⟩
 rw [hg] at kr hb hqw ⊢
 obtain ⟨TX, hTX⟩ : ∃ TX, s.text = TX := ⟨_, rfl⟩
 have c43 : (shc s sl mp)[43]? = some (.string TX) := by rw [← hTX]; exact shc_text h8
 refine wp_region_held (S := fun w' => Blk w' q 134 (shc s sl mp) ∧ Blk w' g 30 #[.int .i64 a, .int .i64 b, .slice A n c] ∧ w'.cell? ⟨q, 43, none⟩ = some (.string TX)) (by kernel_rfl) ?_
 have hS : Blk W.drew q 134 (shc s sl mp) ∧ Blk W.drew g 30 #[.int .i64 a, .int .i64 b, .slice A n c] ∧ W.drew.cell? ⟨q, 43, none⟩ = some (.string TX) := ⟨kq.drew, kr.drew, (kq.drew.cell 43).trans c43⟩
 change wpAnyH _ _ _ _ _ _ _ _ W.drew
 refine tkZ 9 0 rfl rfl (.pointer (some ⟨q, 0, none⟩)) (.inl ⟨rfl, fun w' h' => by go_simp⟩) hS ?_
 simp only [Act.put, zA, zB, zC]
 refine tkZ 10 1 rfl rfl (.pointer (some ⟨q, 0, none⟩)) (.inl ⟨rfl, fun w' h' => by go_simp⟩) hS ?_
 simp only [Act.put, zA, zB, zC]
 refine tkZ 11 2 rfl rfl (.pointer (some ⟨q, 5, none⟩)) (.inl ⟨rfl, fun w' h' => by go_simp⟩) hS ?_
 simp only [Act.put, zA, zB, zC]
 refine tkZ 12 3 rfl rfl (.agg (lgl s.log sl).toArray) (yieldsIf_load_mid rfl _ (.tmp 11) rfl q 5 rfl (lgl s.log sl) _ (fun w' h' => shop_log_range h'.1 h8) Try.underlying131 rfl (log_info_lgl h8)) hS ?_
 simp only [Act.put, zA, zB, zC]
 refine tkZ 13 4 rfl rfl (.pointer (some ⟨q, 0, none⟩)) (.inl ⟨rfl, fun w' h' => by go_simp⟩) hS ?_
 simp only [Act.put, zA, zB, zC]
 refine tkZ 14 5 rfl rfl (.pointer (some ⟨q, 0, none⟩)) (.inl ⟨rfl, fun w' h' => by go_simp⟩) hS ?_
 simp only [Act.put, zA, zB, zC]
 refine tkZ 15 6 rfl rfl (.pointer (some ⟨q, 43, none⟩)) (.inl ⟨rfl, fun w' h' => by go_simp⟩) hS ?_
 simp only [Act.put, zA, zB, zC]
 refine tkZ 16 7 rfl rfl (.string TX) (.inl ⟨rfl, fun w' h' => by obtain ⟨-, -, h1⟩ := h'; go_simp⟩) hS ?_
 simp only [Act.put, zA, zB, zC]
 refine tkZ 17 8 rfl rfl (.int .i64 TX.size) (.inl ⟨rfl, fun w' h' => by go_simp⟩) hS ?_
 simp only [Act.put, zA, zB, zC]
 refine tkZ 18 9 rfl rfl (.agg #[.int .i64 a, .int .i64 b, .slice A n c]) (.inl ⟨rfl, fun w' h' => exec_load_blk _ _ rfl g rfl _ (rev_row h'.2.1 rfl)⟩) hS ?_
 simp only [Act.put, zA, zB, zC]
 have hnx := next_any s.log sl h8 hsl hb0 hb1 hr TX.size (a, b, d) A n c W.drew (Hd.out.step (Below.drew (Below.refl _ _)))
 rw [hTX] at he
 rw [he] at hnx
 refine wpAnyH_all (rs := [10]) (by kernel_rfl) (List.cons_ne_nil _ _) (fun i10 hi10 => ?_)
 obtain rfl := List.mem_singleton.1 hi10
 refine wpOp_enter 19 rfl rfl rfl 85 #[.agg (lgc s.log sl), .int .i64 TX.size, .agg #[.int .i64 a, .int .i64 b, .slice A n c]] (by go_simp; rfl) (.int .i64 E) (fun w' => Below W.drew.heap.size W.drew w') hnx ?_
 intro wo hvo
 simp only [Act.put, zA, zB, zC]
 have hvo2 : Below W.heap.size W wo := ⟨hvo.os, hvo.tape, hvo.output, hvo.size, hvo.block⟩
 clear hvo hS hnx
 have lq := kq.lt
 have lr := kr.lt
 replace kq := kq.below hvo2 lq
 replace kr := kr.below hvo2 lr
 replace hb := hb.trans (hvo2.mono (by omega))
 replace Hd := Lib.hid (Hd.out.step hvo2)
 clear lq lr hvo2
 have hS : Blk wo q 134 (shc s sl mp) ∧ Blk wo g 30 #[.int .i64 a, .int .i64 b, .slice A n c] ∧ wo.cell? ⟨q, 43, none⟩ = some (.string TX) := ⟨kq, kr, (kq.cell 43).trans c43⟩
 refine ⟨hS, ?_⟩
 refine tkZ 6 11 rfl rfl (.int .i64 E) (.inl ⟨rfl, fun w' h' => by go_simp⟩) hS ?_
 simp only [Act.put, zA, zB, zC]
 refine wpAnyH_done (by kernel_rfl) ?_ _
 clear hS
 subst hE0
 obtain ⟨hone, -, hlen, -, hfit⟩ := next_len he
 have hdl : d.length ≤ 1600 := ((good_iff d).1 (one_parts hone).2.2.2.2).1
 have hnd : n = d.length := Hd.out.1
 have hn1 : n ≤ 1600 := by omega
 have hdt := text_good (one_parts hone).2.2.2.2
 have r2 := kr.cell 2
 have f2 := kr.frozen 2
 have lr := kr.lt
 have lq := kq.lt
 have hwo : g ≤ wo.heap.size := by omega
 have Kq := Lib.hid kq
 have Kr := Lib.hid kr
 have Hn := Lib.hid (show ([] : List Pt).length + n ≤ 4000000 by simp; omega)
 have Hnd := Lib.hid hnd.symm
 have Hdt := Lib.hid hdt
 have Hone := Lib.hid hone
 clear hnd kq kr hdl hdt
 go_upto_region 5 with (first | (refine wpList_app_partsC _ rfl (.const (.slice none 0 0)) (.tmp 24) rfl wo.heap.size _ [] rfl (OwnP.nil _ _) A n c _ d rfl Hd.out Hn.out (Nat.le_refl _) ?_; intro vd wd qd hvd; rw [List.nil_append] at qd; obtain ⟨A5, c5, rfl⟩ := qd.form_ (n := n) Hnd.out; have kr_ := Kr.out.below hvd lr; have s2 := kr_.cell 2; have t2 := kr_.frozen 2; have lr_ := kr_.lt))
 have kq5 := (Kq.out.below hvd lq).far (p := ⟨g, 2, none⟩) (by simp only; omega) (.slice A5 n c5)
 have kr5 : Blk (wd.setCell ⟨g, 2, none⟩ (.slice A5 n c5)) g 30 #[.int .i64 a, .int .i64 b, .slice A5 n c5] := kr_.set_ 2 (.slice A5 n c5)
 have oD := own_only qd (Only.setSelf wd g 2 (.slice A5 n c5)) (fun k hk e => by have e : k = g := e; rw [e] at hk; exact own_blk_ne qd kr_ (by decide) hk)
 have hb5 := (hb.trans (hvd.mono hwo)).setCell (p := ⟨g, 2, none⟩) (Nat.le_refl _) (.slice A5 n c5)
 have hs5 : (wd.setCell ⟨g, 2, none⟩ (.slice A5 n c5)).heap.size = wd.heap.size := by simp
 have hsd := hvd.size
 obtain ⟨V5, hV5⟩ : ∃ V5, wd.setCell ⟨g, 2, none⟩ (.slice A5 n c5) = V5 := ⟨_, rfl⟩
 rw [hV5] at kq5 kr5 oD hb5 hs5 ⊢
 clear hV5 hvd qd kr_ s2 t2 lr_ r2 f2 lr lq hb Kq Kr Hd
 have OD := Lib.hid (own_base oD (show g ≤ wo.heap.size from hwo))
 have hdge := Lib.hid (own_ge OD.out)
 have hcr := hrev_good a b d A5 n c5 V5 (rdSx oD Hdt.out) Hone.out
 have hFB := frB_tx (a, b, d)
 obtain ⟨FB, hFBe⟩ : ∃ FB, frB (a, b, d) = FB := ⟨_, rfl⟩
 rw [hFBe] at hcr hFB
 have hFs : FB.size ≤ 4007 := by
  have h1 : FB.data.toList.length = FB.size := rfl
  rw [hFB, txF_len] at h1
  have := (frR_ok Hone.out).2.2
  omega
 have Hcr := Lib.hid hcr
 have HFe := Lib.hid hFBe
 clear hcr hFB hFBe oD
 go_wp2_with (first | (refine wpList_load_blk rfl _ (.tmp 3) rfl g rfl _ (rev_row kr5 rfl) ?_))
 refine Hcr.out.mono ?_
 rintro e v6 ⟨rfl, hq6⟩
 have lq5 := kq5.lt
 have lr5 := kr5.lt
 have kq6 := kq5.below hq6 lq5
 have kr6 := kr5.below hq6 lr5
 have hs6 := hq6.size
 have hb6 := hb5.trans (hq6.mono (by omega))
 replace OD := Lib.hid (own_below OD.out hq6)
 clear kq5 kr5 hb5 hq6 lq5 lr5 Hcr
 have c4 := kq6.cell 4
 rw [shc_at] at c4
 have lq6 := kq6.lt
 have hpt := sput_any q s sl mp s.at_ FB v6 kq6 hl (by omega)
 obtain ⟨s1, hs1⟩ : ∃ s1 : Sh, { s with d0 := (dapp s.d0 s.d1 s.at_ FB).1, d1 := (dapp s.d0 s.d1 s.at_ FB).2.1 } = s1 := ⟨_, rfl⟩
 rw [hs1] at hpt
 have Hpt := Lib.hid hpt
 have e1 : s1.log = s.log := by rw [← hs1]
 have e2 : s1.text = s.text := by rw [← hs1]
 have Hs1 := Lib.hid hs1
 clear hpt hs1
 go_wp2_with fail
 refine Hpt.out.mono ?_
 rintro e v7 ⟨rfl, kq7, ho7⟩
 clear c4 lq6 Hpt
 subst hmp
 subst hax
 have h81 : Lg8 s1.log := by rw [e1]; exact h8
 have hv7 := (Hv.out.below (hg ▸ hb6)).box kq6 (by decide) (by decide) ho7
 have kr7 := kr6.only ho7 (by show ¬ g = q; omega)
 have oD7 := own_only OD.out ho7 (fun k hk e => by have e : k = q := e; rw [e] at hk; exact own_blk_ne OD.out kq6 (by decide) hk)
 have ow7 := (Only.of_below (S := fun k => k = q ∨ (Value.slice sl.1 sl.2.1 sl.2.2).ownBlock = some k) (hg ▸ hb6)).trans (ho7.mono fun k _ h => .inl h)
 have hs7 := ho7.2.2.2.1
 have c45 := kq7.cell 45
 rw [shc_mv h81] at c45
 have lq7 := kq7.lt
 clear ho7 kr6 kq6 OD hb6
 go_upto_region 11 with (fail)
 clear c45
 have c43' : (shc s1 sl none)[43]? = some (.string TX) := by rw [shc_text h81, e2, hTX]
 have hdE : doE d TX = 0 := hfit
 have hTs : TX.size ≤ 500 := by rw [← hTX]; exact hts
 refine wp_region_held (S := fun w' => Blk w' g 30 #[.int .i64 x, .int .i64 b, .slice A5 n c5]) (by kernel_rfl) ?_
 have hS : Blk v7.drew g 30 #[.int .i64 x, .int .i64 b, .slice A5 n c5] := kr7.drew
 change wpAnyH _ _ _ _ _ _ _ _ v7.drew
 refine tkZ 65 0 rfl rfl (.pointer (some ⟨q, 0, none⟩)) (.inl ⟨rfl, fun w' h' => by go_simp⟩) hS ?_
 simp only [Act.put, zA, zB, zC]
 refine tkZ 66 1 rfl rfl (.pointer (some ⟨g, 2, none⟩)) (.inl ⟨rfl, fun w' h' => by go_simp⟩) hS ?_
 simp only [Act.put, zA, zB, zC]
 refine tkZ 67 2 rfl rfl (.slice A5 n c5) (.inl ⟨rfl, fun w' h' => by have h1 := h'.cell 2; go_simp⟩) hS ?_
 simp only [Act.put, zA, zB, zC]
 refine tkZ 68 3 rfl rfl (.pointer (some ⟨q, 0, none⟩)) (.inl ⟨rfl, fun w' h' => by go_simp⟩) hS ?_
 simp only [Act.put, zA, zB, zC]
 refine tkZ 69 4 rfl rfl (.pointer (some ⟨q, 0, none⟩)) (.inl ⟨rfl, fun w' h' => by go_simp⟩) hS ?_
 simp only [Act.put, zA, zB, zC]
 refine tkZ 70 5 rfl rfl (.pointer (some ⟨q, 43, none⟩)) (.inl ⟨rfl, fun w' h' => by go_simp⟩) hS ?_
 simp only [Act.put, zA, zB, zC]
 refine wpAnyH_all (rs := [6]) (by kernel_rfl) (List.cons_ne_nil _ _) (fun i6 hi6 => ?_)
 obtain rfl := List.mem_singleton.1 hi6
 have h43 : v7.drew.cell? ⟨q, 43, none⟩ = some (.string TX) := (kq7.drew.cell 43).trans c43'
 refine wpOp_value 71 rfl rfl rfl (.string TX) (by go_simp) ?_
 simp only [Act.put, zA, zB, zC]
 refine ⟨hS, ?_⟩
 refine wpAnyH_all (rs := [7]) (by kernel_rfl) (List.cons_ne_nil _ _) (fun i7 hi7 => ?_)
 obtain rfl := List.mem_singleton.1 hi7
 have hbd : Below v7.heap.size v7 v7.drew := Below.drew (Below.refl _ _)
 have hdo := do_any d A5 n c5 v7.drew.heap.size TX v7.drew (rdSx (own_below oD7 hbd) Hdt.out) (Nat.le_refl _) (by omega)
 rw [hdE] at hdo
 refine wpOp_enter 72 rfl rfl rfl 56 #[.slice A5 n c5, .string TX] (by go_simp) (.tuple #[.string (doS d TX), .int .i64 0]) (fun w' => Below v7.drew.heap.size v7.drew w') hdo ?_
 intro w8 hv8_
 simp only [Act.put, zA, zB, zC]
 have hq8 : Below v7.heap.size v7 w8 := ⟨hv8_.os, hv8_.tape, hv8_.output, hv8_.size, hv8_.block⟩
 clear hv8_ hS h43 hdo hbd
 have kq8 := kq7.below hq8 lq7
 have kr8 := kr7.below hq8 kr7.lt
 have oD8 := own_below oD7 hq8
 have hv8 := hv7.below hq8
 have ow8 := ow7.trans (Only.of_below hq8)
 have hs8 := hq8.size
 clear kq7 kr7 oD7 hv7 ow7 hq8
 refine ⟨kr8, ?_⟩
 refine tkZ 64 8 rfl rfl (.tuple #[.string (doS d TX), .int .i64 0]) (.inl ⟨rfl, fun w' h' => by go_simp⟩) kr8 ?_
 simp only [Act.put, zA, zB, zC]
 refine tkZ 73 9 rfl rfl (.string (doS d TX)) (.inl ⟨rfl, fun w' h' => by go_simp⟩) kr8 ?_
 simp only [Act.put, zA, zB, zC]
 refine tkZ 74 10 rfl rfl (.int .i64 0) (.inl ⟨rfl, fun w' h' => by go_simp⟩) kr8 ?_
 simp only [Act.put, zA, zB, zC]
 refine tkZ 75 11 rfl rfl (.pointer (some ⟨q, 0, none⟩)) (.inl ⟨rfl, fun w' h' => by go_simp⟩) kr8 ?_
 simp only [Act.put, zA, zB, zC]
 refine tkZ 76 12 rfl rfl (.pointer (some ⟨q, 43, none⟩)) (.inl ⟨rfl, fun w' h' => by go_simp⟩) kr8 ?_
 simp only [Act.put, zA, zB, zC]
 refine wpAnyH_all (rs := [13]) (by kernel_rfl) (List.cons_ne_nil _ _) (fun i13 hi13 => ?_)
 obtain rfl := List.mem_singleton.1 hi13
 have c43 := kq8.cell 43
 rw [c43'] at c43
 have f43 := kq8.frozen 43
 have lq8 := kq8.lt
 refine wpOp_at rfl rfl ?_
 unfold Oper.wp
 go_simp
 have kr9 := kr8.far (p := ⟨q, 43, none⟩) (by simp only; omega) (.string (doS d TX))
 refine ⟨kr9, ?_⟩
 refine wpAnyH_done (by kernel_rfl) ?_ _
 have kq9 := kq8.set_ 43 (.string (doS d TX))
 rw [shc_settext _ _ _ _ h81] at kq9
 have ho9 := Only.setSelf w8 q 43 (.string (doS d TX))
 have oD9 := own_only oD8 ho9 (fun k hk e => by have e : k = q := e; rw [e] at hk; exact own_blk_ne oD8 kq8 (by decide) hk)
 have hv9 := hv8.box kq8 (by decide) (by decide) ho9
 have ow9 := ow8.trans (ho9.mono fun k _ h => .inl h)
 have hs9 : (w8.setCell ⟨q, 43, none⟩ (.string (doS d TX))).heap.size = w8.heap.size := by simp
 obtain ⟨s2, hs2⟩ : ∃ s2 : Sh, { s1 with text := doS d TX } = s2 := ⟨_, rfl⟩
 rw [hs2] at kq9
 have e3 : s2.log = s.log := by rw [← hs2, ← e1]
 obtain ⟨V9, hV9⟩ : ∃ V9, w8.setCell ⟨q, 43, none⟩ (.string (doS d TX)) = V9 := ⟨_, rfl⟩
 rw [hV9] at kq9 kr9 oD9 hv9 ow9 hs9 ⊢
 clear hV9 ho9 oD8 hv8 ow8 kq8 kr8 c43 f43 lq8
 go_upto_region 12 with (fail)
 refine wp_region_held (S := fun w' => Blk w' g 30 #[.int .i64 x, .int .i64 b, .slice A5 n c5]) (by kernel_rfl) ?_
 have hS : Blk V9.drew g 30 #[.int .i64 x, .int .i64 b, .slice A5 n c5] := kr9.drew
 change wpAnyH _ _ _ _ _ _ _ _ V9.drew
 refine tkZ 77 0 rfl rfl (.pointer (some ⟨q, 0, none⟩)) (.inl ⟨rfl, fun w' h' => by go_simp⟩) hS ?_
 simp only [Act.put, zA, zB, zC]
 refine tkZ 78 1 rfl rfl (.pointer (some ⟨q, 0, none⟩)) (.inl ⟨rfl, fun w' h' => by go_simp⟩) hS ?_
 simp only [Act.put, zA, zB, zC]
 refine tkZ 79 2 rfl rfl (.pointer (some ⟨q, 5, none⟩)) (.inl ⟨rfl, fun w' h' => by go_simp⟩) hS ?_
 simp only [Act.put, zA, zB, zC]
 refine tkZ 80 3 rfl rfl (.agg #[.int .i64 x, .int .i64 b, .slice A5 n c5]) (.inl ⟨rfl, fun w' h' => exec_load_blk _ _ rfl g rfl _ (rev_row h' rfl)⟩) hS ?_
 simp only [Act.put, zA, zB, zC]
 refine wpAnyH_all (rs := [4]) (by kernel_rfl) (List.cons_ne_nil _ _) (fun i4 hi4 => ?_)
 obtain rfl := List.mem_singleton.1 hi4
 have hbd : Below V9.heap.size V9 V9.drew := Below.drew (Below.refl _ _)
 have hgB : B ≤ g := by omega
 have had := hadd_any q 5 134 (shP s2) (shR s2 none) s2.log sl ss x b d A5 n c5 B V9.drew kq9.drew rfl (by rw [e3]; exact h8) (by decide) (by decide) (by rw [e3]; exact hv9.below hbd) (by show B ≤ V9.heap.size; omega) (own_base (own_below oD9 hbd) hgB) Hdt.out hx8 (by rw [e3]; omega) (by rw [e3]; exact hb0) (by rw [e3]; exact hb1)
 refine wpOp_enter 81 rfl rfl rfl 87 #[.pointer (some ⟨q, 5, none⟩), .agg #[.int .i64 x, .int .i64 b, .slice A5 n c5]] (by go_simp) (.tuple #[]) _ had ?_
 rintro wA ⟨sl', kA, hvA, hoA, hnA⟩
 simp only [Act.put, zA, zB, zC]
 have krA := kr9.drew.only hoA (by
  rintro (h | h)
  · omega
  · have := hvlt g h; omega)
 refine ⟨krA, ?_⟩
 refine wpAnyH_done (by kernel_rfl) ?_ _
 have hadd : lgin (shP s2) (addL s2.log ((x : Int), b, d)) sl' (shR s2 none) = shc (addS s ((x : Int), b, d)) sl' none := by
  rw [← hs2, ← Hs1.out, ← HFe.out, ← hTX]
  rfl
 rw [hadd] at kA
 rw [e3] at hvA
 obtain ⟨Az, cz_, ez⟩ := hvA.form
 have hsl2 : sl'.2.1 = s.log.revs.length + 1 := by injection ez with _ e9 _; rw [e9, List.length_append]; rfl
 have hlA : (addS s ((x : Int), b, d)).log.revs.length = s.log.revs.length + 1 := by simp [addS, putS, addS, addL]
 have hbA : (addS s ((x : Int), b, d)).log.base = s.log.base := rfl
 have hdr := shead_any q (addS s ((x : Int), b, d)) sl' none wA kA (addL_8 h8 _) (by rw [hsl2, hlA]) (by rw [hbA]; exact hb0) (by rw [hbA]; exact hb1) (by rw [hlA]; omega)
 rw [hlA, hbA] at hdr
 have Hdr := Lib.hid hdr
 clear hdr hS kr9 krA oD9
 go_wp2_with fail
 refine Hdr.out.mono ?_
 rintro e wB ⟨rfl, hqB⟩
 go_wp2_with fail
 go_ret2
 refine ⟨rfl, sl', _, kA.below hqB kA.lt, hvA.below hqB, fun k h => hg ▸ hdge.out k h, ((ow9.trans (Only.drew _)).trans hoA).trans (Only.of_below hqB), ?_⟩
 rcases hnA with h | h
 · exact .inl h
 · refine .inr fun k hk => ?_
   have h1 := h k hk
   have h2 : V9.drew.heap.size = V9.heap.size := rfl
   omega
theorem sadd_gn (q : Nat) (s : Sh) (sl : Sl) (ss : List Sl) (B : Nat) (x : Nat) (b : Int) (d : List Pt) (A : Option Addr) (n c : Nat) (w : World) (gm : Nat) (fl cp : Int) (hmv : Blk w gm 141 #[.int .i64 fl, .int .i64 cp, .bool false]) (hk : Blk w q 134 (shc s sl (some ⟨gm, 0, none⟩))) (h8 : Lg8 s.log) (hsl : sl.2.1 = s.log.revs.length) (hb0 : 0 ≤ s.log.base) (hb1 : s.log.base ≤ 2147483647) (hr : s.log.revs.length ≤ 1000) (hd : RdP w w.heap.size A n c d)
 (hv : OwnV w B (.slice sl.1 sl.2.1 sl.2.2) ss s.log.revs) (hBq : B ≤ q) (hx8 : x < 8) (hts : s.text.size ≤ 500) (he : nextE s.log s.text.size ((x : Int), b, d) = 0) (hl : dlook s.d0 s.d1 s.at_ = 0) :
 Calls Try.prog 42 #[.pointer (some ⟨q, 0, none⟩), .agg #[.int .i64 x, .int .i64 b, .slice A n c]] w fun e w' => e = .returned (.tuple #[.int .i64 (s.log.base + (s.log.revs.length + 1 : Nat)), .int .i64 0]) ∧ ∃ sl' d' : Sl, Blk w' q 134 (shc (addS s ((x : Int), b, d)) sl' (some ⟨gm, 0, none⟩)) ∧ OwnV w' B (.slice sl'.1 sl'.2.1 sl'.2.2) (ss ++ [d']) (s.log.revs ++ [((x : Int), b, d)]) ∧ (∀ k, (Value.slice d'.1 d'.2.1 d'.2.2).ownBlock = some k → w.heap.size ≤ k) ∧
  Only w w' (fun k => k = q ∨ (Value.slice sl.1 sl.2.1 sl.2.2).ownBlock = some k) ∧ ((Value.slice sl'.1 sl'.2.1 sl'.2.2).ownBlock = (Value.slice sl.1 sl.2.1 sl.2.2).ownBlock ∨ ∀ k, (Value.slice sl'.1 sl'.2.1 sl'.2.2).ownBlock = some k → w.heap.size ≤ k) := by
 obtain ⟨E, hE0⟩ : ∃ E : Int, 0 = E := ⟨_, rfl⟩
 rw [hE0] at he
 have Hv := Lib.hid hv
 have hvlt := own_lt hv.row
 have hvge := own_ge hv.row
 have Hw0 := Lib.hid (Only.refl w (fun k => k = q ∨ (Value.slice sl.1 sl.2.1 sl.2.2).ownBlock = some k))
 obtain ⟨a, hax⟩ : ∃ a : Int, (x : Int) = a := ⟨_, rfl⟩
 rw [hax] at he ⊢
 obtain ⟨mp, hmp⟩ : ∃ mp : Option Addr, (some ⟨gm, 0, none⟩) = mp := ⟨_, rfl⟩
 have Hmv := Lib.hid hmv
 clear hmv
 rw [hmp] at hk ⊢
 clear hv
 have kq := hk.alloc (.cells #[.int .i64 a, .int .i64 b, .slice A n c] 30)
 have kr := Blk.new w 30 #[.int .i64 a, .int .i64 b, .slice A n c]
 have hb := (Below.refl w.heap.size w).alloc (Nat.le_refl _) (.cells #[.int .i64 a, .int .i64 b, .slice A n c] 30)
 have Hd := Lib.hid (hd.stepA (.cells #[.int .i64 a, .int .i64 b, .slice A n c] 30))
 have hqw := hk.lt
 clear hd hk
 go_enter Try.func42, Try.ntmps42
 go_upto_region 1 with (fail)
 obtain ⟨W, hW⟩ : ∃ W, w.alloc (.cells #[.int .i64 a, .int .i64 b, .slice A n c] 30) = W := ⟨_, rfl⟩
 rw [hW] at kq kr hb Hd ⊢
 clear hW
 obtain ⟨g, hg⟩ : ∃ g, w.heap.size = g := ⟨_, rfl⟩
 rw [hg] at kr hb hqw ⊢
 obtain ⟨TX, hTX⟩ : ∃ TX, s.text = TX := ⟨_, rfl⟩
 have c43 : (shc s sl mp)[43]? = some (.string TX) := by rw [← hTX]; exact shc_text h8
 refine wp_region_held (S := fun w' => Blk w' q 134 (shc s sl mp) ∧ Blk w' g 30 #[.int .i64 a, .int .i64 b, .slice A n c] ∧ w'.cell? ⟨q, 43, none⟩ = some (.string TX)) (by kernel_rfl) ?_
 have hS : Blk W.drew q 134 (shc s sl mp) ∧ Blk W.drew g 30 #[.int .i64 a, .int .i64 b, .slice A n c] ∧ W.drew.cell? ⟨q, 43, none⟩ = some (.string TX) := ⟨kq.drew, kr.drew, (kq.drew.cell 43).trans c43⟩
 change wpAnyH _ _ _ _ _ _ _ _ W.drew
 refine tkZ 9 0 rfl rfl (.pointer (some ⟨q, 0, none⟩)) (.inl ⟨rfl, fun w' h' => by go_simp⟩) hS ?_
 simp only [Act.put, zA, zB, zC]
 refine tkZ 10 1 rfl rfl (.pointer (some ⟨q, 0, none⟩)) (.inl ⟨rfl, fun w' h' => by go_simp⟩) hS ?_
 simp only [Act.put, zA, zB, zC]
 refine tkZ 11 2 rfl rfl (.pointer (some ⟨q, 5, none⟩)) (.inl ⟨rfl, fun w' h' => by go_simp⟩) hS ?_
 simp only [Act.put, zA, zB, zC]
 refine tkZ 12 3 rfl rfl (.agg (lgl s.log sl).toArray) (yieldsIf_load_mid rfl _ (.tmp 11) rfl q 5 rfl (lgl s.log sl) _ (fun w' h' => shop_log_range h'.1 h8) Try.underlying131 rfl (log_info_lgl h8)) hS ?_
 simp only [Act.put, zA, zB, zC]
 refine tkZ 13 4 rfl rfl (.pointer (some ⟨q, 0, none⟩)) (.inl ⟨rfl, fun w' h' => by go_simp⟩) hS ?_
 simp only [Act.put, zA, zB, zC]
 refine tkZ 14 5 rfl rfl (.pointer (some ⟨q, 0, none⟩)) (.inl ⟨rfl, fun w' h' => by go_simp⟩) hS ?_
 simp only [Act.put, zA, zB, zC]
 refine tkZ 15 6 rfl rfl (.pointer (some ⟨q, 43, none⟩)) (.inl ⟨rfl, fun w' h' => by go_simp⟩) hS ?_
 simp only [Act.put, zA, zB, zC]
 refine tkZ 16 7 rfl rfl (.string TX) (.inl ⟨rfl, fun w' h' => by obtain ⟨-, -, h1⟩ := h'; go_simp⟩) hS ?_
 simp only [Act.put, zA, zB, zC]
 refine tkZ 17 8 rfl rfl (.int .i64 TX.size) (.inl ⟨rfl, fun w' h' => by go_simp⟩) hS ?_
 simp only [Act.put, zA, zB, zC]
 refine tkZ 18 9 rfl rfl (.agg #[.int .i64 a, .int .i64 b, .slice A n c]) (.inl ⟨rfl, fun w' h' => exec_load_blk _ _ rfl g rfl _ (rev_row h'.2.1 rfl)⟩) hS ?_
 simp only [Act.put, zA, zB, zC]
 have hnx := next_any s.log sl h8 hsl hb0 hb1 hr TX.size (a, b, d) A n c W.drew (Hd.out.step (Below.drew (Below.refl _ _)))
 rw [hTX] at he
 rw [he] at hnx
 refine wpAnyH_all (rs := [10]) (by kernel_rfl) (List.cons_ne_nil _ _) (fun i10 hi10 => ?_)
 obtain rfl := List.mem_singleton.1 hi10
 refine wpOp_enter 19 rfl rfl rfl 85 #[.agg (lgc s.log sl), .int .i64 TX.size, .agg #[.int .i64 a, .int .i64 b, .slice A n c]] (by go_simp; rfl) (.int .i64 E) (fun w' => Below W.drew.heap.size W.drew w') hnx ?_
 intro wo hvo
 simp only [Act.put, zA, zB, zC]
 have hvo2 : Below W.heap.size W wo := ⟨hvo.os, hvo.tape, hvo.output, hvo.size, hvo.block⟩
 clear hvo hS hnx
 have lq := kq.lt
 have lr := kr.lt
 replace kq := kq.below hvo2 lq
 replace kr := kr.below hvo2 lr
 replace hb := hb.trans (hvo2.mono (by omega))
 replace Hd := Lib.hid (Hd.out.step hvo2)
 clear lq lr hvo2
 have hS : Blk wo q 134 (shc s sl mp) ∧ Blk wo g 30 #[.int .i64 a, .int .i64 b, .slice A n c] ∧ wo.cell? ⟨q, 43, none⟩ = some (.string TX) := ⟨kq, kr, (kq.cell 43).trans c43⟩
 refine ⟨hS, ?_⟩
 refine tkZ 6 11 rfl rfl (.int .i64 E) (.inl ⟨rfl, fun w' h' => by go_simp⟩) hS ?_
 simp only [Act.put, zA, zB, zC]
 refine wpAnyH_done (by kernel_rfl) ?_ _
 clear hS
 subst hE0
 obtain ⟨hone, -, hlen, -, hfit⟩ := next_len he
 have hdl : d.length ≤ 1600 := ((good_iff d).1 (one_parts hone).2.2.2.2).1
 have hnd : n = d.length := Hd.out.1
 have hn1 : n ≤ 1600 := by omega
 have hdt := text_good (one_parts hone).2.2.2.2
 have r2 := kr.cell 2
 have f2 := kr.frozen 2
 have lr := kr.lt
 have lq := kq.lt
 have hwo : g ≤ wo.heap.size := by omega
 have Kq := Lib.hid kq
 have Kr := Lib.hid kr
 have Hn := Lib.hid (show ([] : List Pt).length + n ≤ 4000000 by simp; omega)
 have Hnd := Lib.hid hnd.symm
 have Hdt := Lib.hid hdt
 have Hone := Lib.hid hone
 clear hnd kq kr hdl hdt
 go_upto_region 5 with (first | (refine wpList_app_partsC _ rfl (.const (.slice none 0 0)) (.tmp 24) rfl wo.heap.size _ [] rfl (OwnP.nil _ _) A n c _ d rfl Hd.out Hn.out (Nat.le_refl _) ?_; intro vd wd qd hvd; rw [List.nil_append] at qd; obtain ⟨A5, c5, rfl⟩ := qd.form_ (n := n) Hnd.out; have kr_ := Kr.out.below hvd lr; have s2 := kr_.cell 2; have t2 := kr_.frozen 2; have lr_ := kr_.lt))
 have kq5 := (Kq.out.below hvd lq).far (p := ⟨g, 2, none⟩) (by simp only; omega) (.slice A5 n c5)
 have kr5 : Blk (wd.setCell ⟨g, 2, none⟩ (.slice A5 n c5)) g 30 #[.int .i64 a, .int .i64 b, .slice A5 n c5] := kr_.set_ 2 (.slice A5 n c5)
 have oD := own_only qd (Only.setSelf wd g 2 (.slice A5 n c5)) (fun k hk e => by have e : k = g := e; rw [e] at hk; exact own_blk_ne qd kr_ (by decide) hk)
 have hb5 := (hb.trans (hvd.mono hwo)).setCell (p := ⟨g, 2, none⟩) (Nat.le_refl _) (.slice A5 n c5)
 have hs5 : (wd.setCell ⟨g, 2, none⟩ (.slice A5 n c5)).heap.size = wd.heap.size := by simp
 have hsd := hvd.size
 obtain ⟨V5, hV5⟩ : ∃ V5, wd.setCell ⟨g, 2, none⟩ (.slice A5 n c5) = V5 := ⟨_, rfl⟩
 rw [hV5] at kq5 kr5 oD hb5 hs5 ⊢
 clear hV5 hvd qd kr_ s2 t2 lr_ r2 f2 lr lq hb Kq Kr Hd
 have OD := Lib.hid (own_base oD (show g ≤ wo.heap.size from hwo))
 have hdge := Lib.hid (own_ge OD.out)
 have hcr := hrev_good a b d A5 n c5 V5 (rdSx oD Hdt.out) Hone.out
 have hFB := frB_tx (a, b, d)
 obtain ⟨FB, hFBe⟩ : ∃ FB, frB (a, b, d) = FB := ⟨_, rfl⟩
 rw [hFBe] at hcr hFB
 have hFs : FB.size ≤ 4007 := by
  have h1 : FB.data.toList.length = FB.size := rfl
  rw [hFB, txF_len] at h1
  have := (frR_ok Hone.out).2.2
  omega
 have Hcr := Lib.hid hcr
 have HFe := Lib.hid hFBe
 clear hcr hFB hFBe oD
 go_wp2_with (first | (refine wpList_load_blk rfl _ (.tmp 3) rfl g rfl _ (rev_row kr5 rfl) ?_))
 refine Hcr.out.mono ?_
 rintro e v6 ⟨rfl, hq6⟩
 have lq5 := kq5.lt
 have lr5 := kr5.lt
 have kq6 := kq5.below hq6 lq5
 have kr6 := kr5.below hq6 lr5
 have hs6 := hq6.size
 have hb6 := hb5.trans (hq6.mono (by omega))
 replace OD := Lib.hid (own_below OD.out hq6)
 clear kq5 kr5 hb5 hq6 lq5 lr5 Hcr
 have c4 := kq6.cell 4
 rw [shc_at] at c4
 have lq6 := kq6.lt
 have hpt := sput_any q s sl mp s.at_ FB v6 kq6 hl (by omega)
 obtain ⟨s1, hs1⟩ : ∃ s1 : Sh, { s with d0 := (dapp s.d0 s.d1 s.at_ FB).1, d1 := (dapp s.d0 s.d1 s.at_ FB).2.1 } = s1 := ⟨_, rfl⟩
 rw [hs1] at hpt
 have Hpt := Lib.hid hpt
 have e1 : s1.log = s.log := by rw [← hs1]
 have e2 : s1.text = s.text := by rw [← hs1]
 have Hs1 := Lib.hid hs1
 clear hpt hs1
 go_wp2_with fail
 refine Hpt.out.mono ?_
 rintro e v7 ⟨rfl, kq7, ho7⟩
 clear c4 lq6 Hpt
 have km7 := (Hmv.out.below (hg ▸ hb6) Hmv.out.lt).only ho7 (Blk.ne_ (Hmv.out.below (hg ▸ hb6) Hmv.out.lt) kq6 (by decide))
 clear Hmv
 subst hmp
 subst hax
 have h81 : Lg8 s1.log := by rw [e1]; exact h8
 have hv7 := (Hv.out.below (hg ▸ hb6)).box kq6 (by decide) (by decide) ho7
 have kr7 := kr6.only ho7 (by show ¬ g = q; omega)
 have oD7 := own_only OD.out ho7 (fun k hk e => by have e : k = q := e; rw [e] at hk; exact own_blk_ne OD.out kq6 (by decide) hk)
 have ow7 := (Only.of_below (S := fun k => k = q ∨ (Value.slice sl.1 sl.2.1 sl.2.2).ownBlock = some k) (hg ▸ hb6)).trans (ho7.mono fun k _ h => .inl h)
 have hs7 := ho7.2.2.2.1
 have c45 := kq7.cell 45
 rw [shc_mv h81] at c45
 have lq7 := kq7.lt
 clear ho7 kr6 kq6 OD hb6
 have m2 := km7.cell 2
 have lm := km7.lt
 go_upto_region 11 with (fail)
 clear c45 m2 lm km7
 have c43' : (shc s1 sl (some ⟨gm, 0, none⟩))[43]? = some (.string TX) := by rw [shc_text h81, e2, hTX]
 have hdE : doE d TX = 0 := hfit
 have hTs : TX.size ≤ 500 := by rw [← hTX]; exact hts
 refine wp_region_held (S := fun w' => Blk w' g 30 #[.int .i64 x, .int .i64 b, .slice A5 n c5]) (by kernel_rfl) ?_
 have hS : Blk v7.drew g 30 #[.int .i64 x, .int .i64 b, .slice A5 n c5] := kr7.drew
 change wpAnyH _ _ _ _ _ _ _ _ v7.drew
 refine tkZ 65 0 rfl rfl (.pointer (some ⟨q, 0, none⟩)) (.inl ⟨rfl, fun w' h' => by go_simp⟩) hS ?_
 simp only [Act.put, zA, zB, zC]
 refine tkZ 66 1 rfl rfl (.pointer (some ⟨g, 2, none⟩)) (.inl ⟨rfl, fun w' h' => by go_simp⟩) hS ?_
 simp only [Act.put, zA, zB, zC]
 refine tkZ 67 2 rfl rfl (.slice A5 n c5) (.inl ⟨rfl, fun w' h' => by have h1 := h'.cell 2; go_simp⟩) hS ?_
 simp only [Act.put, zA, zB, zC]
 refine tkZ 68 3 rfl rfl (.pointer (some ⟨q, 0, none⟩)) (.inl ⟨rfl, fun w' h' => by go_simp⟩) hS ?_
 simp only [Act.put, zA, zB, zC]
 refine tkZ 69 4 rfl rfl (.pointer (some ⟨q, 0, none⟩)) (.inl ⟨rfl, fun w' h' => by go_simp⟩) hS ?_
 simp only [Act.put, zA, zB, zC]
 refine tkZ 70 5 rfl rfl (.pointer (some ⟨q, 43, none⟩)) (.inl ⟨rfl, fun w' h' => by go_simp⟩) hS ?_
 simp only [Act.put, zA, zB, zC]
 refine wpAnyH_all (rs := [6]) (by kernel_rfl) (List.cons_ne_nil _ _) (fun i6 hi6 => ?_)
 obtain rfl := List.mem_singleton.1 hi6
 have h43 : v7.drew.cell? ⟨q, 43, none⟩ = some (.string TX) := (kq7.drew.cell 43).trans c43'
 refine wpOp_value 71 rfl rfl rfl (.string TX) (by go_simp) ?_
 simp only [Act.put, zA, zB, zC]
 refine ⟨hS, ?_⟩
 refine wpAnyH_all (rs := [7]) (by kernel_rfl) (List.cons_ne_nil _ _) (fun i7 hi7 => ?_)
 obtain rfl := List.mem_singleton.1 hi7
 have hbd : Below v7.heap.size v7 v7.drew := Below.drew (Below.refl _ _)
 have hdo := do_any d A5 n c5 v7.drew.heap.size TX v7.drew (rdSx (own_below oD7 hbd) Hdt.out) (Nat.le_refl _) (by omega)
 rw [hdE] at hdo
 refine wpOp_enter 72 rfl rfl rfl 56 #[.slice A5 n c5, .string TX] (by go_simp) (.tuple #[.string (doS d TX), .int .i64 0]) (fun w' => Below v7.drew.heap.size v7.drew w') hdo ?_
 intro w8 hv8_
 simp only [Act.put, zA, zB, zC]
 have hq8 : Below v7.heap.size v7 w8 := ⟨hv8_.os, hv8_.tape, hv8_.output, hv8_.size, hv8_.block⟩
 clear hv8_ hS h43 hdo hbd
 have kq8 := kq7.below hq8 lq7
 have kr8 := kr7.below hq8 kr7.lt
 have oD8 := own_below oD7 hq8
 have hv8 := hv7.below hq8
 have ow8 := ow7.trans (Only.of_below hq8)
 have hs8 := hq8.size
 clear kq7 kr7 oD7 hv7 ow7 hq8
 refine ⟨kr8, ?_⟩
 refine tkZ 64 8 rfl rfl (.tuple #[.string (doS d TX), .int .i64 0]) (.inl ⟨rfl, fun w' h' => by go_simp⟩) kr8 ?_
 simp only [Act.put, zA, zB, zC]
 refine tkZ 73 9 rfl rfl (.string (doS d TX)) (.inl ⟨rfl, fun w' h' => by go_simp⟩) kr8 ?_
 simp only [Act.put, zA, zB, zC]
 refine tkZ 74 10 rfl rfl (.int .i64 0) (.inl ⟨rfl, fun w' h' => by go_simp⟩) kr8 ?_
 simp only [Act.put, zA, zB, zC]
 refine tkZ 75 11 rfl rfl (.pointer (some ⟨q, 0, none⟩)) (.inl ⟨rfl, fun w' h' => by go_simp⟩) kr8 ?_
 simp only [Act.put, zA, zB, zC]
 refine tkZ 76 12 rfl rfl (.pointer (some ⟨q, 43, none⟩)) (.inl ⟨rfl, fun w' h' => by go_simp⟩) kr8 ?_
 simp only [Act.put, zA, zB, zC]
 refine wpAnyH_all (rs := [13]) (by kernel_rfl) (List.cons_ne_nil _ _) (fun i13 hi13 => ?_)
 obtain rfl := List.mem_singleton.1 hi13
 have c43 := kq8.cell 43
 rw [c43'] at c43
 have f43 := kq8.frozen 43
 have lq8 := kq8.lt
 refine wpOp_at rfl rfl ?_
 unfold Oper.wp
 go_simp
 have kr9 := kr8.far (p := ⟨q, 43, none⟩) (by simp only; omega) (.string (doS d TX))
 refine ⟨kr9, ?_⟩
 refine wpAnyH_done (by kernel_rfl) ?_ _
 have kq9 := kq8.set_ 43 (.string (doS d TX))
 rw [shc_settext _ _ _ _ h81] at kq9
 have ho9 := Only.setSelf w8 q 43 (.string (doS d TX))
 have oD9 := own_only oD8 ho9 (fun k hk e => by have e : k = q := e; rw [e] at hk; exact own_blk_ne oD8 kq8 (by decide) hk)
 have hv9 := hv8.box kq8 (by decide) (by decide) ho9
 have ow9 := ow8.trans (ho9.mono fun k _ h => .inl h)
 have hs9 : (w8.setCell ⟨q, 43, none⟩ (.string (doS d TX))).heap.size = w8.heap.size := by simp
 obtain ⟨s2, hs2⟩ : ∃ s2 : Sh, { s1 with text := doS d TX } = s2 := ⟨_, rfl⟩
 rw [hs2] at kq9
 have e3 : s2.log = s.log := by rw [← hs2, ← e1]
 obtain ⟨V9, hV9⟩ : ∃ V9, w8.setCell ⟨q, 43, none⟩ (.string (doS d TX)) = V9 := ⟨_, rfl⟩
 rw [hV9] at kq9 kr9 oD9 hv9 ow9 hs9 ⊢
 clear hV9 ho9 oD8 hv8 ow8 kq8 kr8 c43 f43 lq8
 go_upto_region 12 with (fail)
 refine wp_region_held (S := fun w' => Blk w' g 30 #[.int .i64 x, .int .i64 b, .slice A5 n c5]) (by kernel_rfl) ?_
 have hS : Blk V9.drew g 30 #[.int .i64 x, .int .i64 b, .slice A5 n c5] := kr9.drew
 change wpAnyH _ _ _ _ _ _ _ _ V9.drew
 refine tkZ 77 0 rfl rfl (.pointer (some ⟨q, 0, none⟩)) (.inl ⟨rfl, fun w' h' => by go_simp⟩) hS ?_
 simp only [Act.put, zA, zB, zC]
 refine tkZ 78 1 rfl rfl (.pointer (some ⟨q, 0, none⟩)) (.inl ⟨rfl, fun w' h' => by go_simp⟩) hS ?_
 simp only [Act.put, zA, zB, zC]
 refine tkZ 79 2 rfl rfl (.pointer (some ⟨q, 5, none⟩)) (.inl ⟨rfl, fun w' h' => by go_simp⟩) hS ?_
 simp only [Act.put, zA, zB, zC]
 refine tkZ 80 3 rfl rfl (.agg #[.int .i64 x, .int .i64 b, .slice A5 n c5]) (.inl ⟨rfl, fun w' h' => exec_load_blk _ _ rfl g rfl _ (rev_row h' rfl)⟩) hS ?_
 simp only [Act.put, zA, zB, zC]
 refine wpAnyH_all (rs := [4]) (by kernel_rfl) (List.cons_ne_nil _ _) (fun i4 hi4 => ?_)
 obtain rfl := List.mem_singleton.1 hi4
 have hbd : Below V9.heap.size V9 V9.drew := Below.drew (Below.refl _ _)
 have hgB : B ≤ g := by omega
 have had := hadd_any q 5 134 (shP s2) (shR s2 (some ⟨gm, 0, none⟩)) s2.log sl ss x b d A5 n c5 B V9.drew kq9.drew rfl (by rw [e3]; exact h8) (by decide) (by decide) (by rw [e3]; exact hv9.below hbd) (by show B ≤ V9.heap.size; omega) (own_base (own_below oD9 hbd) hgB) Hdt.out hx8 (by rw [e3]; omega) (by rw [e3]; exact hb0) (by rw [e3]; exact hb1)
 refine wpOp_enter 81 rfl rfl rfl 87 #[.pointer (some ⟨q, 5, none⟩), .agg #[.int .i64 x, .int .i64 b, .slice A5 n c5]] (by go_simp) (.tuple #[]) _ had ?_
 rintro wA ⟨sl', kA, hvA, hoA, hnA⟩
 simp only [Act.put, zA, zB, zC]
 have krA := kr9.drew.only hoA (by
  rintro (h | h)
  · omega
  · have := hvlt g h; omega)
 refine ⟨krA, ?_⟩
 refine wpAnyH_done (by kernel_rfl) ?_ _
 have hadd : lgin (shP s2) (addL s2.log ((x : Int), b, d)) sl' (shR s2 (some ⟨gm, 0, none⟩)) = shc (addS s ((x : Int), b, d)) sl' (some ⟨gm, 0, none⟩) := by
  rw [← hs2, ← Hs1.out, ← HFe.out, ← hTX]
  rfl
 rw [hadd] at kA
 rw [e3] at hvA
 obtain ⟨Az, cz_, ez⟩ := hvA.form
 have hsl2 : sl'.2.1 = s.log.revs.length + 1 := by injection ez with _ e9 _; rw [e9, List.length_append]; rfl
 have hlA : (addS s ((x : Int), b, d)).log.revs.length = s.log.revs.length + 1 := by simp [addS, putS, addS, addL]
 have hbA : (addS s ((x : Int), b, d)).log.base = s.log.base := rfl
 have hdr := shead_any q (addS s ((x : Int), b, d)) sl' (some ⟨gm, 0, none⟩) wA kA (addL_8 h8 _) (by rw [hsl2, hlA]) (by rw [hbA]; exact hb0) (by rw [hbA]; exact hb1) (by rw [hlA]; omega)
 rw [hlA, hbA] at hdr
 have Hdr := Lib.hid hdr
 clear hdr hS kr9 krA oD9
 go_wp2_with fail
 refine Hdr.out.mono ?_
 rintro e wB ⟨rfl, hqB⟩
 go_wp2_with fail
 go_ret2
 refine ⟨rfl, sl', _, kA.below hqB kA.lt, hvA.below hqB, fun k h => hg ▸ hdge.out k h, ((ow9.trans (Only.drew _)).trans hoA).trans (Only.of_below hqB), ?_⟩
 rcases hnA with h | h
 · exact .inl h
 · refine .inr fun k hk => ?_
   have h1 := h k hk
   have h2 : V9.drew.heap.size = V9.heap.size := rfl
   omega
theorem sadd_gy (q : Nat) (s : Sh) (sl : Sl) (ss : List Sl) (B : Nat) (x : Nat) (b : Int) (d : List Pt) (A : Option Addr) (n c : Nat) (w : World) (gm : Nat) (fl cp : Int) (hmv : Blk w gm 141 #[.int .i64 fl, .int .i64 cp, .bool true]) (hk : Blk w q 134 (shc s sl (some ⟨gm, 0, none⟩))) (h8 : Lg8 s.log) (hsl : sl.2.1 = s.log.revs.length) (hb0 : 0 ≤ s.log.base) (hb1 : s.log.base ≤ 2147483647) (hr : s.log.revs.length ≤ 1000) (hd : RdP w w.heap.size A n c d)
 (hv : OwnV w B (.slice sl.1 sl.2.1 sl.2.2) ss s.log.revs) (hBq : B ≤ q) (hx8 : x < 8) (hts : s.text.size ≤ 500) (he : nextE s.log s.text.size ((x : Int), b, d) = 0) (hl : dlook s.d0 s.d1 s.at_ = 0) (hat : s.at_ ≤ 1) (hl2 : dlook (putS s s.at_ (frB ((x : Int), b, d))).d0 (putS s s.at_ (frB ((x : Int), b, d))).d1 ((1 - s.at_ : Nat) : Int) = 0) :
 Calls Try.prog 42 #[.pointer (some ⟨q, 0, none⟩), .agg #[.int .i64 x, .int .i64 b, .slice A n c]] w fun e w' => e = .returned (.tuple #[.int .i64 (s.log.base + (s.log.revs.length + 1 : Nat)), .int .i64 0]) ∧ ∃ sl' d' : Sl, Blk w' q 134 (shc (addW s ((x : Int), b, d)) sl' (some ⟨gm, 0, none⟩)) ∧ OwnV w' B (.slice sl'.1 sl'.2.1 sl'.2.2) (ss ++ [d']) (s.log.revs ++ [((x : Int), b, d)]) ∧ (∀ k, (Value.slice d'.1 d'.2.1 d'.2.2).ownBlock = some k → w.heap.size ≤ k) ∧
  Only w w' (fun k => k = q ∨ (Value.slice sl.1 sl.2.1 sl.2.2).ownBlock = some k) ∧ ((Value.slice sl'.1 sl'.2.1 sl'.2.2).ownBlock = (Value.slice sl.1 sl.2.1 sl.2.2).ownBlock ∨ ∀ k, (Value.slice sl'.1 sl'.2.1 sl'.2.2).ownBlock = some k → w.heap.size ≤ k) := by
 obtain ⟨E, hE0⟩ : ∃ E : Int, 0 = E := ⟨_, rfl⟩
 rw [hE0] at he
 have Hv := Lib.hid hv
 have hvlt := own_lt hv.row
 have hvge := own_ge hv.row
 have Hw0 := Lib.hid (Only.refl w (fun k => k = q ∨ (Value.slice sl.1 sl.2.1 sl.2.2).ownBlock = some k))
 obtain ⟨a, hax⟩ : ∃ a : Int, (x : Int) = a := ⟨_, rfl⟩
 rw [hax] at he ⊢
 obtain ⟨mp, hmp⟩ : ∃ mp : Option Addr, (some ⟨gm, 0, none⟩) = mp := ⟨_, rfl⟩
 have Hmv := Lib.hid hmv
 clear hmv
 rw [hmp] at hk ⊢
 clear hv
 have kq := hk.alloc (.cells #[.int .i64 a, .int .i64 b, .slice A n c] 30)
 have kr := Blk.new w 30 #[.int .i64 a, .int .i64 b, .slice A n c]
 have hb := (Below.refl w.heap.size w).alloc (Nat.le_refl _) (.cells #[.int .i64 a, .int .i64 b, .slice A n c] 30)
 have Hd := Lib.hid (hd.stepA (.cells #[.int .i64 a, .int .i64 b, .slice A n c] 30))
 have hqw := hk.lt
 clear hd hk
 go_enter Try.func42, Try.ntmps42
 go_upto_region 1 with (fail)
 obtain ⟨W, hW⟩ : ∃ W, w.alloc (.cells #[.int .i64 a, .int .i64 b, .slice A n c] 30) = W := ⟨_, rfl⟩
 rw [hW] at kq kr hb Hd ⊢
 clear hW
 obtain ⟨g, hg⟩ : ∃ g, w.heap.size = g := ⟨_, rfl⟩
 rw [hg] at kr hb hqw ⊢
 obtain ⟨TX, hTX⟩ : ∃ TX, s.text = TX := ⟨_, rfl⟩
 have c43 : (shc s sl mp)[43]? = some (.string TX) := by rw [← hTX]; exact shc_text h8
 refine wp_region_held (S := fun w' => Blk w' q 134 (shc s sl mp) ∧ Blk w' g 30 #[.int .i64 a, .int .i64 b, .slice A n c] ∧ w'.cell? ⟨q, 43, none⟩ = some (.string TX)) (by kernel_rfl) ?_
 have hS : Blk W.drew q 134 (shc s sl mp) ∧ Blk W.drew g 30 #[.int .i64 a, .int .i64 b, .slice A n c] ∧ W.drew.cell? ⟨q, 43, none⟩ = some (.string TX) := ⟨kq.drew, kr.drew, (kq.drew.cell 43).trans c43⟩
 change wpAnyH _ _ _ _ _ _ _ _ W.drew
 refine tkZ 9 0 rfl rfl (.pointer (some ⟨q, 0, none⟩)) (.inl ⟨rfl, fun w' h' => by go_simp⟩) hS ?_
 simp only [Act.put, zA, zB, zC]
 refine tkZ 10 1 rfl rfl (.pointer (some ⟨q, 0, none⟩)) (.inl ⟨rfl, fun w' h' => by go_simp⟩) hS ?_
 simp only [Act.put, zA, zB, zC]
 refine tkZ 11 2 rfl rfl (.pointer (some ⟨q, 5, none⟩)) (.inl ⟨rfl, fun w' h' => by go_simp⟩) hS ?_
 simp only [Act.put, zA, zB, zC]
 refine tkZ 12 3 rfl rfl (.agg (lgl s.log sl).toArray) (yieldsIf_load_mid rfl _ (.tmp 11) rfl q 5 rfl (lgl s.log sl) _ (fun w' h' => shop_log_range h'.1 h8) Try.underlying131 rfl (log_info_lgl h8)) hS ?_
 simp only [Act.put, zA, zB, zC]
 refine tkZ 13 4 rfl rfl (.pointer (some ⟨q, 0, none⟩)) (.inl ⟨rfl, fun w' h' => by go_simp⟩) hS ?_
 simp only [Act.put, zA, zB, zC]
 refine tkZ 14 5 rfl rfl (.pointer (some ⟨q, 0, none⟩)) (.inl ⟨rfl, fun w' h' => by go_simp⟩) hS ?_
 simp only [Act.put, zA, zB, zC]
 refine tkZ 15 6 rfl rfl (.pointer (some ⟨q, 43, none⟩)) (.inl ⟨rfl, fun w' h' => by go_simp⟩) hS ?_
 simp only [Act.put, zA, zB, zC]
 refine tkZ 16 7 rfl rfl (.string TX) (.inl ⟨rfl, fun w' h' => by obtain ⟨-, -, h1⟩ := h'; go_simp⟩) hS ?_
 simp only [Act.put, zA, zB, zC]
 refine tkZ 17 8 rfl rfl (.int .i64 TX.size) (.inl ⟨rfl, fun w' h' => by go_simp⟩) hS ?_
 simp only [Act.put, zA, zB, zC]
 refine tkZ 18 9 rfl rfl (.agg #[.int .i64 a, .int .i64 b, .slice A n c]) (.inl ⟨rfl, fun w' h' => exec_load_blk _ _ rfl g rfl _ (rev_row h'.2.1 rfl)⟩) hS ?_
 simp only [Act.put, zA, zB, zC]
 have hnx := next_any s.log sl h8 hsl hb0 hb1 hr TX.size (a, b, d) A n c W.drew (Hd.out.step (Below.drew (Below.refl _ _)))
 rw [hTX] at he
 rw [he] at hnx
 refine wpAnyH_all (rs := [10]) (by kernel_rfl) (List.cons_ne_nil _ _) (fun i10 hi10 => ?_)
 obtain rfl := List.mem_singleton.1 hi10
 refine wpOp_enter 19 rfl rfl rfl 85 #[.agg (lgc s.log sl), .int .i64 TX.size, .agg #[.int .i64 a, .int .i64 b, .slice A n c]] (by go_simp; rfl) (.int .i64 E) (fun w' => Below W.drew.heap.size W.drew w') hnx ?_
 intro wo hvo
 simp only [Act.put, zA, zB, zC]
 have hvo2 : Below W.heap.size W wo := ⟨hvo.os, hvo.tape, hvo.output, hvo.size, hvo.block⟩
 clear hvo hS hnx
 have lq := kq.lt
 have lr := kr.lt
 replace kq := kq.below hvo2 lq
 replace kr := kr.below hvo2 lr
 replace hb := hb.trans (hvo2.mono (by omega))
 replace Hd := Lib.hid (Hd.out.step hvo2)
 clear lq lr hvo2
 have hS : Blk wo q 134 (shc s sl mp) ∧ Blk wo g 30 #[.int .i64 a, .int .i64 b, .slice A n c] ∧ wo.cell? ⟨q, 43, none⟩ = some (.string TX) := ⟨kq, kr, (kq.cell 43).trans c43⟩
 refine ⟨hS, ?_⟩
 refine tkZ 6 11 rfl rfl (.int .i64 E) (.inl ⟨rfl, fun w' h' => by go_simp⟩) hS ?_
 simp only [Act.put, zA, zB, zC]
 refine wpAnyH_done (by kernel_rfl) ?_ _
 clear hS
 subst hE0
 obtain ⟨hone, -, hlen, -, hfit⟩ := next_len he
 have hdl : d.length ≤ 1600 := ((good_iff d).1 (one_parts hone).2.2.2.2).1
 have hnd : n = d.length := Hd.out.1
 have hn1 : n ≤ 1600 := by omega
 have hdt := text_good (one_parts hone).2.2.2.2
 have r2 := kr.cell 2
 have f2 := kr.frozen 2
 have lr := kr.lt
 have lq := kq.lt
 have hwo : g ≤ wo.heap.size := by omega
 have Kq := Lib.hid kq
 have Kr := Lib.hid kr
 have Hn := Lib.hid (show ([] : List Pt).length + n ≤ 4000000 by simp; omega)
 have Hnd := Lib.hid hnd.symm
 have Hdt := Lib.hid hdt
 have Hone := Lib.hid hone
 clear hnd kq kr hdl hdt
 go_upto_region 5 with (first | (refine wpList_app_partsC _ rfl (.const (.slice none 0 0)) (.tmp 24) rfl wo.heap.size _ [] rfl (OwnP.nil _ _) A n c _ d rfl Hd.out Hn.out (Nat.le_refl _) ?_; intro vd wd qd hvd; rw [List.nil_append] at qd; obtain ⟨A5, c5, rfl⟩ := qd.form_ (n := n) Hnd.out; have kr_ := Kr.out.below hvd lr; have s2 := kr_.cell 2; have t2 := kr_.frozen 2; have lr_ := kr_.lt))
 have kq5 := (Kq.out.below hvd lq).far (p := ⟨g, 2, none⟩) (by simp only; omega) (.slice A5 n c5)
 have kr5 : Blk (wd.setCell ⟨g, 2, none⟩ (.slice A5 n c5)) g 30 #[.int .i64 a, .int .i64 b, .slice A5 n c5] := kr_.set_ 2 (.slice A5 n c5)
 have oD := own_only qd (Only.setSelf wd g 2 (.slice A5 n c5)) (fun k hk e => by have e : k = g := e; rw [e] at hk; exact own_blk_ne qd kr_ (by decide) hk)
 have hb5 := (hb.trans (hvd.mono hwo)).setCell (p := ⟨g, 2, none⟩) (Nat.le_refl _) (.slice A5 n c5)
 have hs5 : (wd.setCell ⟨g, 2, none⟩ (.slice A5 n c5)).heap.size = wd.heap.size := by simp
 have hsd := hvd.size
 obtain ⟨V5, hV5⟩ : ∃ V5, wd.setCell ⟨g, 2, none⟩ (.slice A5 n c5) = V5 := ⟨_, rfl⟩
 rw [hV5] at kq5 kr5 oD hb5 hs5 ⊢
 clear hV5 hvd qd kr_ s2 t2 lr_ r2 f2 lr lq hb Kq Kr Hd
 have OD := Lib.hid (own_base oD (show g ≤ wo.heap.size from hwo))
 have hdge := Lib.hid (own_ge OD.out)
 have hcr := hrev_good a b d A5 n c5 V5 (rdSx oD Hdt.out) Hone.out
 have hFB := frB_tx (a, b, d)
 obtain ⟨FB, hFBe⟩ : ∃ FB, frB (a, b, d) = FB := ⟨_, rfl⟩
 rw [hFBe] at hcr hFB
 have hFs : FB.size ≤ 4007 := by
  have h1 : FB.data.toList.length = FB.size := rfl
  rw [hFB, txF_len] at h1
  have := (frR_ok Hone.out).2.2
  omega
 have Hcr := Lib.hid hcr
 have HFe := Lib.hid hFBe
 clear hcr hFB hFBe oD
 go_wp2_with (first | (refine wpList_load_blk rfl _ (.tmp 3) rfl g rfl _ (rev_row kr5 rfl) ?_))
 refine Hcr.out.mono ?_
 rintro e v6 ⟨rfl, hq6⟩
 have lq5 := kq5.lt
 have lr5 := kr5.lt
 have kq6 := kq5.below hq6 lq5
 have kr6 := kr5.below hq6 lr5
 have hs6 := hq6.size
 have hb6 := hb5.trans (hq6.mono (by omega))
 replace OD := Lib.hid (own_below OD.out hq6)
 clear kq5 kr5 hb5 hq6 lq5 lr5 Hcr
 have c4 := kq6.cell 4
 rw [shc_at] at c4
 have lq6 := kq6.lt
 have hpt := sput_any q s sl mp s.at_ FB v6 kq6 hl (by omega)
 obtain ⟨s1, hs1⟩ : ∃ s1 : Sh, { s with d0 := (dapp s.d0 s.d1 s.at_ FB).1, d1 := (dapp s.d0 s.d1 s.at_ FB).2.1 } = s1 := ⟨_, rfl⟩
 rw [hs1] at hpt
 have Hpt := Lib.hid hpt
 have e1 : s1.log = s.log := by rw [← hs1]
 have e2 : s1.text = s.text := by rw [← hs1]
 have Hs1 := Lib.hid hs1
 clear hpt hs1
 go_wp2_with fail
 refine Hpt.out.mono ?_
 rintro e v7 ⟨rfl, kq7, ho7⟩
 clear c4 lq6 Hpt
 have km7 := (Hmv.out.below (hg ▸ hb6) Hmv.out.lt).only ho7 (Blk.ne_ (Hmv.out.below (hg ▸ hb6) Hmv.out.lt) kq6 (by decide))
 clear Hmv
 subst hmp
 subst hax
 have h81 : Lg8 s1.log := by rw [e1]; exact h8
 have hv7 := (Hv.out.below (hg ▸ hb6)).box kq6 (by decide) (by decide) ho7
 have kr7 := kr6.only ho7 (by show ¬ g = q; omega)
 have oD7 := own_only OD.out ho7 (fun k hk e => by have e : k = q := e; rw [e] at hk; exact own_blk_ne OD.out kq6 (by decide) hk)
 have ow7 := (Only.of_below (S := fun k => k = q ∨ (Value.slice sl.1 sl.2.1 sl.2.2).ownBlock = some k) (hg ▸ hb6)).trans (ho7.mono fun k _ h => .inl h)
 have hs7 := ho7.2.2.2.1
 have c45 := kq7.cell 45
 rw [shc_mv h81] at c45
 have lq7 := kq7.lt
 clear ho7 kr6 kq6 OD hb6
 have m2 := km7.cell 2
 have lm := km7.lt
 have c4 := kq7.cell 4
 rw [shc_at] at c4
 have ea : s1.at_ = s.at_ := by rw [← Hs1.out]
 obtain ⟨oa, hoa⟩ : ∃ oa : Nat, 1 - s.at_ = oa := ⟨_, rfl⟩
 rw [hoa] at hl2
 have hwr : IntKind.i64.wrap (1 - (s1.at_ : Int)) = (oa : Int) := by rw [show 1 - (s1.at_ : Int) = (oa : Int) by omega]; exact IntWalk.i64_in _ (by omega)
 have hl3 : dlook s1.d0 s1.d1 (oa : Int) = 0 := by
  have e0 : s1 = putS s s.at_ (frB ((x : Int), b, d)) := by rw [← Hs1.out, ← HFe.out]; rfl
  rw [e0]; exact hl2
 have hpt := sput_any q s1 sl (some ⟨gm, 0, none⟩) (oa : Int) FB v7 kq7 hl3 (by omega)
 obtain ⟨s1b, hs1b⟩ : ∃ s1b : Sh, { s1 with d0 := (dapp s1.d0 s1.d1 (oa : Int) FB).1, d1 := (dapp s1.d0 s1.d1 (oa : Int) FB).2.1 } = s1b := ⟨_, rfl⟩
 rw [hs1b] at hpt
 have e1b : s1b.log = s1.log := by rw [← hs1b]
 have e2b : s1b.text = s1.text := by rw [← hs1b]
 have Hs1b := Lib.hid (show { s1 with d0 := (dapp s1.d0 s1.d1 ((1 - s.at_ : Nat) : Int) FB).1, d1 := (dapp s1.d0 s1.d1 ((1 - s.at_ : Nat) : Int) FB).2.1 } = s1b by rw [hoa, hs1b])
 obtain ⟨oi, hoi⟩ : ∃ oi : Int, (oa : Int) = oi := ⟨_, rfl⟩
 rw [hoi] at hwr hpt
 have Hpt := Lib.hid hpt
 have Hoa := Lib.hid hoa
 clear hpt hs1b hoi hl3 hl2 ea hoa
 go_wp2_with fail
 refine Hpt.out.mono ?_
 rintro e vQ ⟨rfl, kqQ, hoQ⟩
 clear Hpt c45 m2 lm c4 hwr
 have h81b : Lg8 s1b.log := by rw [e1b]; exact h81
 have hvQ := hv7.box kq7 (by decide) (by decide) hoQ
 have krQ := kr7.only hoQ (by show ¬ g = q; omega)
 have oDQ := own_only oD7 hoQ (fun k hk e => by have e : k = q := e; rw [e] at hk; exact own_blk_ne oD7 kq7 (by decide) hk)
 have owQ := ow7.trans (hoQ.mono fun k _ h => .inl h)
 have hsQ := hoQ.2.2.2.1
 have lqQ := kqQ.lt
 rw [e1] at e1b
 rw [e2] at e2b
 clear hv7 kr7 oD7 ow7 hoQ kq7 lq7 h81 km7
 go_upto_region 11 with (fail)
 have c43' : (shc s1b sl (some ⟨gm, 0, none⟩))[43]? = some (.string TX) := by rw [shc_text h81b, e2b, hTX]
 have hdE : doE d TX = 0 := hfit
 have hTs : TX.size ≤ 500 := by rw [← hTX]; exact hts
 refine wp_region_held (S := fun w' => Blk w' g 30 #[.int .i64 x, .int .i64 b, .slice A5 n c5]) (by kernel_rfl) ?_
 have hS : Blk vQ.drew g 30 #[.int .i64 x, .int .i64 b, .slice A5 n c5] := krQ.drew
 change wpAnyH _ _ _ _ _ _ _ _ vQ.drew
 refine tkZ 65 0 rfl rfl (.pointer (some ⟨q, 0, none⟩)) (.inl ⟨rfl, fun w' h' => by go_simp⟩) hS ?_
 simp only [Act.put, zA, zB, zC]
 refine tkZ 66 1 rfl rfl (.pointer (some ⟨g, 2, none⟩)) (.inl ⟨rfl, fun w' h' => by go_simp⟩) hS ?_
 simp only [Act.put, zA, zB, zC]
 refine tkZ 67 2 rfl rfl (.slice A5 n c5) (.inl ⟨rfl, fun w' h' => by have h1 := h'.cell 2; go_simp⟩) hS ?_
 simp only [Act.put, zA, zB, zC]
 refine tkZ 68 3 rfl rfl (.pointer (some ⟨q, 0, none⟩)) (.inl ⟨rfl, fun w' h' => by go_simp⟩) hS ?_
 simp only [Act.put, zA, zB, zC]
 refine tkZ 69 4 rfl rfl (.pointer (some ⟨q, 0, none⟩)) (.inl ⟨rfl, fun w' h' => by go_simp⟩) hS ?_
 simp only [Act.put, zA, zB, zC]
 refine tkZ 70 5 rfl rfl (.pointer (some ⟨q, 43, none⟩)) (.inl ⟨rfl, fun w' h' => by go_simp⟩) hS ?_
 simp only [Act.put, zA, zB, zC]
 refine wpAnyH_all (rs := [6]) (by kernel_rfl) (List.cons_ne_nil _ _) (fun i6 hi6 => ?_)
 obtain rfl := List.mem_singleton.1 hi6
 have h43 : vQ.drew.cell? ⟨q, 43, none⟩ = some (.string TX) := (kqQ.drew.cell 43).trans c43'
 refine wpOp_value 71 rfl rfl rfl (.string TX) (by go_simp) ?_
 simp only [Act.put, zA, zB, zC]
 refine ⟨hS, ?_⟩
 refine wpAnyH_all (rs := [7]) (by kernel_rfl) (List.cons_ne_nil _ _) (fun i7 hi7 => ?_)
 obtain rfl := List.mem_singleton.1 hi7
 have hbd : Below vQ.heap.size vQ vQ.drew := Below.drew (Below.refl _ _)
 have hdo := do_any d A5 n c5 vQ.drew.heap.size TX vQ.drew (rdSx (own_below oDQ hbd) Hdt.out) (Nat.le_refl _) (by omega)
 rw [hdE] at hdo
 refine wpOp_enter 72 rfl rfl rfl 56 #[.slice A5 n c5, .string TX] (by go_simp) (.tuple #[.string (doS d TX), .int .i64 0]) (fun w' => Below vQ.drew.heap.size vQ.drew w') hdo ?_
 intro w8 hv8_
 simp only [Act.put, zA, zB, zC]
 have hq8 : Below vQ.heap.size vQ w8 := ⟨hv8_.os, hv8_.tape, hv8_.output, hv8_.size, hv8_.block⟩
 clear hv8_ hS h43 hdo hbd
 have kq8 := kqQ.below hq8 lqQ
 have kr8 := krQ.below hq8 krQ.lt
 have oD8 := own_below oDQ hq8
 have hv8 := hvQ.below hq8
 have ow8 := owQ.trans (Only.of_below hq8)
 have hs8 := hq8.size
 clear kqQ krQ oDQ hvQ owQ hq8
 refine ⟨kr8, ?_⟩
 refine tkZ 64 8 rfl rfl (.tuple #[.string (doS d TX), .int .i64 0]) (.inl ⟨rfl, fun w' h' => by go_simp⟩) kr8 ?_
 simp only [Act.put, zA, zB, zC]
 refine tkZ 73 9 rfl rfl (.string (doS d TX)) (.inl ⟨rfl, fun w' h' => by go_simp⟩) kr8 ?_
 simp only [Act.put, zA, zB, zC]
 refine tkZ 74 10 rfl rfl (.int .i64 0) (.inl ⟨rfl, fun w' h' => by go_simp⟩) kr8 ?_
 simp only [Act.put, zA, zB, zC]
 refine tkZ 75 11 rfl rfl (.pointer (some ⟨q, 0, none⟩)) (.inl ⟨rfl, fun w' h' => by go_simp⟩) kr8 ?_
 simp only [Act.put, zA, zB, zC]
 refine tkZ 76 12 rfl rfl (.pointer (some ⟨q, 43, none⟩)) (.inl ⟨rfl, fun w' h' => by go_simp⟩) kr8 ?_
 simp only [Act.put, zA, zB, zC]
 refine wpAnyH_all (rs := [13]) (by kernel_rfl) (List.cons_ne_nil _ _) (fun i13 hi13 => ?_)
 obtain rfl := List.mem_singleton.1 hi13
 have c43 := kq8.cell 43
 rw [c43'] at c43
 have f43 := kq8.frozen 43
 have lq8 := kq8.lt
 refine wpOp_at rfl rfl ?_
 unfold Oper.wp
 go_simp
 have kr9 := kr8.far (p := ⟨q, 43, none⟩) (by simp only; omega) (.string (doS d TX))
 refine ⟨kr9, ?_⟩
 refine wpAnyH_done (by kernel_rfl) ?_ _
 have kq9 := kq8.set_ 43 (.string (doS d TX))
 rw [shc_settext _ _ _ _ h81b] at kq9
 have ho9 := Only.setSelf w8 q 43 (.string (doS d TX))
 have oD9 := own_only oD8 ho9 (fun k hk e => by have e : k = q := e; rw [e] at hk; exact own_blk_ne oD8 kq8 (by decide) hk)
 have hv9 := hv8.box kq8 (by decide) (by decide) ho9
 have ow9 := ow8.trans (ho9.mono fun k _ h => .inl h)
 have hs9 : (w8.setCell ⟨q, 43, none⟩ (.string (doS d TX))).heap.size = w8.heap.size := by simp
 obtain ⟨s2, hs2⟩ : ∃ s2 : Sh, { s1b with text := doS d TX } = s2 := ⟨_, rfl⟩
 rw [hs2] at kq9
 have e3 : s2.log = s.log := by rw [← hs2, ← e1b]
 obtain ⟨V9, hV9⟩ : ∃ V9, w8.setCell ⟨q, 43, none⟩ (.string (doS d TX)) = V9 := ⟨_, rfl⟩
 rw [hV9] at kq9 kr9 oD9 hv9 ow9 hs9 ⊢
 clear hV9 ho9 oD8 hv8 ow8 kq8 kr8 c43 f43 lq8
 go_upto_region 12 with (fail)
 refine wp_region_held (S := fun w' => Blk w' g 30 #[.int .i64 x, .int .i64 b, .slice A5 n c5]) (by kernel_rfl) ?_
 have hS : Blk V9.drew g 30 #[.int .i64 x, .int .i64 b, .slice A5 n c5] := kr9.drew
 change wpAnyH _ _ _ _ _ _ _ _ V9.drew
 refine tkZ 77 0 rfl rfl (.pointer (some ⟨q, 0, none⟩)) (.inl ⟨rfl, fun w' h' => by go_simp⟩) hS ?_
 simp only [Act.put, zA, zB, zC]
 refine tkZ 78 1 rfl rfl (.pointer (some ⟨q, 0, none⟩)) (.inl ⟨rfl, fun w' h' => by go_simp⟩) hS ?_
 simp only [Act.put, zA, zB, zC]
 refine tkZ 79 2 rfl rfl (.pointer (some ⟨q, 5, none⟩)) (.inl ⟨rfl, fun w' h' => by go_simp⟩) hS ?_
 simp only [Act.put, zA, zB, zC]
 refine tkZ 80 3 rfl rfl (.agg #[.int .i64 x, .int .i64 b, .slice A5 n c5]) (.inl ⟨rfl, fun w' h' => exec_load_blk _ _ rfl g rfl _ (rev_row h' rfl)⟩) hS ?_
 simp only [Act.put, zA, zB, zC]
 refine wpAnyH_all (rs := [4]) (by kernel_rfl) (List.cons_ne_nil _ _) (fun i4 hi4 => ?_)
 obtain rfl := List.mem_singleton.1 hi4
 have hbd : Below V9.heap.size V9 V9.drew := Below.drew (Below.refl _ _)
 have hgB : B ≤ g := by omega
 have had := hadd_any q 5 134 (shP s2) (shR s2 (some ⟨gm, 0, none⟩)) s2.log sl ss x b d A5 n c5 B V9.drew kq9.drew rfl (by rw [e3]; exact h8) (by decide) (by decide) (by rw [e3]; exact hv9.below hbd) (by show B ≤ V9.heap.size; omega) (own_base (own_below oD9 hbd) hgB) Hdt.out hx8 (by rw [e3]; omega) (by rw [e3]; exact hb0) (by rw [e3]; exact hb1)
 refine wpOp_enter 81 rfl rfl rfl 87 #[.pointer (some ⟨q, 5, none⟩), .agg #[.int .i64 x, .int .i64 b, .slice A5 n c5]] (by go_simp) (.tuple #[]) _ had ?_
 rintro wA ⟨sl', kA, hvA, hoA, hnA⟩
 simp only [Act.put, zA, zB, zC]
 have krA := kr9.drew.only hoA (by
  rintro (h | h)
  · omega
  · have := hvlt g h; omega)
 refine ⟨krA, ?_⟩
 refine wpAnyH_done (by kernel_rfl) ?_ _
 have hadd : lgin (shP s2) (addL s2.log ((x : Int), b, d)) sl' (shR s2 (some ⟨gm, 0, none⟩)) = shc (addW s ((x : Int), b, d)) sl' (some ⟨gm, 0, none⟩) := by
  rw [← hs2, ← Hs1b.out, ← Hs1.out, ← HFe.out, ← hTX]
  rfl
 rw [hadd] at kA
 rw [e3] at hvA
 obtain ⟨Az, cz_, ez⟩ := hvA.form
 have hsl2 : sl'.2.1 = s.log.revs.length + 1 := by injection ez with _ e9 _; rw [e9, List.length_append]; rfl
 have hlA : (addW s ((x : Int), b, d)).log.revs.length = s.log.revs.length + 1 := by simp [addW, putS, addS, addL]
 have hbA : (addW s ((x : Int), b, d)).log.base = s.log.base := rfl
 have hdr := shead_any q (addW s ((x : Int), b, d)) sl' (some ⟨gm, 0, none⟩) wA kA (addL_8 h8 _) (by rw [hsl2, hlA]) (by rw [hbA]; exact hb0) (by rw [hbA]; exact hb1) (by rw [hlA]; omega)
 rw [hlA, hbA] at hdr
 have Hdr := Lib.hid hdr
 clear hdr hS kr9 krA oD9
 go_wp2_with fail
 refine Hdr.out.mono ?_
 rintro e wB ⟨rfl, hqB⟩
 go_wp2_with fail
 go_ret2
 refine ⟨rfl, sl', _, kA.below hqB kA.lt, hvA.below hqB, fun k h => hg ▸ hdge.out k h, ((ow9.trans (Only.drew _)).trans hoA).trans (Only.of_below hqB), ?_⟩
 rcases hnA with h | h
 · exact .inl h
 · refine .inr fun k hk => ?_
   have h1 := h k hk
   have h2 : V9.drew.heap.size = V9.heap.size := rfl
   omega
end Go.Proofs.Ytokngfinnieccaa
