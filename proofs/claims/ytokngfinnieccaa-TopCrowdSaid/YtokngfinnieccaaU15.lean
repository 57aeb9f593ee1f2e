/- Contract of shop.Add. -/
import Derived.Test.YtokngfinnieccaaU14
namespace Go.Proofs.Ytokngfinnieccaa
open Go.ChangeShapes Go.WideShapes Go.RowKit
set_option linter.unusedVariables false
set_option linter.unusedSimpArgs false
set_option maxRecDepth 100000
set_option maxHeartbeats 4000000
theorem wpOp_value {ops : Array Oper} {i : Nat} (t : Nat) {o : Oper} {a : Act} {w : World} {K : Act → World → Prop} {Q : Exit → Act → World → Prop} (hi : ops[i]? = some o) (hw : Region.wanted o (yielded ops a.tmps) = true) (hd : o.dst = some t) (v : Value)
 (hx : (execOp a.eval o).run Try.prog w = .ok (.value v) w) (h : K (a.put (some t) v) w) : wpOp Try.prog ops Q i K a w := by
 unfold wpOp
 simp only [hi, hw, if_true]
 refine .inl ?_
 unfold Oper.wp
 rw [hx]
 simp only [Oper.upon]
 rw [hd]
 exact h
theorem wpOp_at {ops : Array Oper} {i : Nat} {o : Oper} {a : Act} {w : World} {K : Act → World → Prop} {Q : Exit → Act → World → Prop} (hi : ops[i]? = some o) (hw : Region.wanted o (yielded ops a.tmps) = true) (h : o.wp Try.prog a w K Q) : wpOp Try.prog ops Q i K a w := by
 unfold wpOp
 simp only [hi, hw, if_true]
 exact .inl h
theorem shop_log_range {w : World} {q : Nat} {s : Sh} {sl : Sl} {mp : Option Addr} (h : Blk w q 134 (shc s sl mp)) (h8 : Lg8 s.log) : w.rangeAt q 5 (lgl s.log sl) := h.range fun j v hj => by
 have hjl : j < 38 := by have := (List.getElem?_eq_some_iff.1 hj).1; rw [lgl_len h8] at this; exact this
 rw [shc_log j hjl h8, lgc_at]; exact hj
theorem log_info_lgl {l : Lg} {s : Sl} (h8 : Lg8 l) : (Try.prog.info? 131).map (·.size) = some (lgl l s).length := by rw [lgl_len h8]; exact log_info
theorem sadd_no (q : Nat) (s : Sh) (sl : Sl) (mp : Option Addr) (a b : Int) (d : List Pt) (A : Option Addr) (n c : Nat) (w : World) (hk : Blk w q 134 (shc s sl mp)) (h8 : Lg8 s.log) (hsl : sl.2.1 = s.log.revs.length) (hb0 : 0 ≤ s.log.base) (hb1 : s.log.base ≤ 2147483647) (hr : s.log.revs.length ≤ 1000) (hd : RdP w w.heap.size A n c d) (E : Int) (he : nextE s.log s.text.size (a, b, d) = E) (hE : E ≠ 0) :
 Calls Try.prog 42 #[.pointer (some ⟨q, 0, none⟩), .agg #[.int .i64 a, .int .i64 b, .slice A n c]] w fun e w' => e = .returned (.tuple #[.int .i64 0, .int .i64 E]) ∧ Below w.heap.size w w' := by
 have kq := hk.alloc (.cells #[.int .i64 a, .int .i64 b, .slice A n c] 30)
 have kr := Blk.new w 30 #[.int .i64 a, .int .i64 b, .slice A n c]
 have hb := (Below.refl w.heap.size w).alloc (Nat.le_refl _) (.cells #[.int .i64 a, .int .i64 b, .slice A n c] 30)
 have Hd := Lib.hid (hd.stepA (.cells #[.int .i64 a, .int .i64 b, .slice A n c] 30))
 have hqw := hk.lt
 clear hd hk
 go_enter Try.func42, Try.ntmps42
 go_upto_region 1 with (fail)
 obtain ⟨W, hW⟩ : ∃ W, w.alloc (.cells #[.int .i64 a, .int .i64 b, .slice A n c] 30) = W := ⟨_, rfl⟩
 rw [hW] at kq kr hb Hd ⊢
 clear hW
 obtain ⟨g, hg⟩ : ∃ g, w.heap.size = g := ⟨_, rfl⟩
 rw [hg] at kr hb hqw ⊢
 obtain ⟨TX, hTX⟩ : ∃ TX, s.text = TX := ⟨_, rfl⟩
 have c43 : (shc s sl mp)[43]? = some (.string TX) := by rw [← hTX]; exact shc_text h8
 refine wp_region_held (S := fun w' => Blk w' q 134 (shc s sl mp) ∧ Blk w' g 30 #[.int .i64 a, .int .i64 b, .slice A n c] ∧ w'.cell? ⟨q, 43, none⟩ = some (.string TX)) (by kernel_rfl) ?_
 have hS : Blk W.drew q 134 (shc s sl mp) ∧ Blk W.drew g 30 #[.int .i64 a, .int .i64 b, .slice A n c] ∧ W.drew.cell? ⟨q, 43, none⟩ = some (.string TX) := ⟨kq.drew, kr.drew, (kq.drew.cell 43).trans c43⟩
 change wpAnyH _ _ _ _ _ _ _ _ W.drew
 refine tkZ 9 0 rfl rfl (.pointer (some ⟨q, 0, none⟩)) (.inl ⟨rfl, fun w' h' => by go_simp⟩) hS ?_
 simp only [Act.put, zA, zB, zC]
 refine tkZ 10 1 rfl rfl (.pointer (some ⟨q, 0, none⟩)) (.inl ⟨rfl, fun w' h' => by go_simp⟩) hS ?_
 simp only [Act.put, zA, zB, zC]
 refine tkZ 11 2 rfl rfl (.pointer (some ⟨q, 5, none⟩)) (.inl ⟨rfl, fun w' h' => by go_simp⟩) hS ?_
 simp only [Act.put, zA, zB, zC]
 refine tkZ 12 3 rfl rfl (.agg (lgl s.log sl).toArray) (yieldsIf_load_mid rfl _ (.tmp 11) rfl q 5 rfl (lgl s.log sl) _ (fun w' h' => shop_log_range h'.1 h8) Try.underlying131 rfl (log_info_lgl h8)) hS ?_
 simp only [Act.put, zA, zB, zC]
 refine tkZ 13 4 rfl rfl (.pointer (some ⟨q, 0, none⟩)) (.inl ⟨rfl, fun w' h' => by go_simp⟩) hS ?_
 simp only [Act.put, zA, zB, zC]
 refine tkZ 14 5 rfl rfl (.pointer (some ⟨q, 0, none⟩)) (.inl ⟨rfl, fun w' h' => by go_simp⟩) hS ?_
 simp only [Act.put, zA, zB, zC]
 refine tkZ 15 6 rfl rfl (.pointer (some ⟨q, 43, none⟩)) (.inl ⟨rfl, fun w' h' => by go_simp⟩) hS ?_
 simp only [Act.put, zA, zB, zC]
 refine tkZ 16 7 rfl rfl (.string TX) (.inl ⟨rfl, fun w' h' => by obtain ⟨-, -, h1⟩ := h'; go_simp⟩) hS ?_
 simp only [Act.put, zA, zB, zC]
 refine tkZ 17 8 rfl rfl (.int .i64 TX.size) (.inl ⟨rfl, fun w' h' => by go_simp⟩) hS ?_
 simp only [Act.put, zA, zB, zC]
 refine tkZ 18 9 rfl rfl (.agg #[.int .i64 a, .int .i64 b, .slice A n c]) (.inl ⟨rfl, fun w' h' => exec_load_blk _ _ rfl g rfl _ (rev_row h'.2.1 rfl)⟩) hS ?_
 simp only [Act.put, zA, zB, zC]
 have hnx := next_any s.log sl h8 hsl hb0 hb1 hr TX.size (a, b, d) A n c W.drew (Hd.out.step (Below.drew (Below.refl _ _)))
 rw [hTX] at he
 rw [he] at hnx
 refine wpAnyH_all (rs := [10]) (by kernel_rfl) (List.cons_ne_nil _ _) (fun i10 hi10 => ?_)
 obtain rfl := List.mem_singleton.1 hi10
 refine wpOp_enter 19 rfl rfl rfl 85 #[.agg (lgc s.log sl), .int .i64 TX.size, .agg #[.int .i64 a, .int .i64 b, .slice A n c]] (by go_simp; rfl) (.int .i64 E) (fun w' => Below W.drew.heap.size W.drew w') hnx ?_
 intro wo hvo
 simp only [Act.put, zA, zB, zC]
 have hvo2 : Below W.heap.size W wo := ⟨hvo.os, hvo.tape, hvo.output, hvo.size, hvo.block⟩
 clear hvo hS hnx
 have lq := kq.lt
 have lr := kr.lt
 replace kq := kq.below hvo2 lq
 replace kr := kr.below hvo2 lr
 replace hb := hb.trans (hvo2.mono (by omega))
 replace Hd := Lib.hid (Hd.out.step hvo2)
 clear lq lr hvo2
 have hS : Blk wo q 134 (shc s sl mp) ∧ Blk wo g 30 #[.int .i64 a, .int .i64 b, .slice A n c] ∧ wo.cell? ⟨q, 43, none⟩ = some (.string TX) := ⟨kq, kr, (kq.cell 43).trans c43⟩
 refine ⟨hS, ?_⟩
 refine tkZ 6 11 rfl rfl (.int .i64 E) (.inl ⟨rfl, fun w' h' => by go_simp⟩) hS ?_
 simp only [Act.put, zA, zB, zC]
 refine wpAnyH_done (by kernel_rfl) ?_ _
 clear hS
 have hEn : (E != 0) = true := by simpa using hE
 clear kq kr c43
 go_wp2_with fail
 go_ret2
 exact ⟨rfl, hg ▸ hb⟩
def addS (s : Sh) (r : Rv) : Sh := { s with d0 := (dapp s.d0 s.d1 s.at_ (frB r)).1, d1 := (dapp s.d0 s.d1 s.at_ (frB r)).2.1, text := doS r.2.2 s.text, log := addL s.log r }
theorem shc_settext (s : Sh) (sl : Sl) (mp : Option Addr) (t : ByteArray) (h8 : Lg8 s.log) : (shc s sl mp).setIfInBounds 43 (.string t) = shc { s with text := t } sl mp := by
 unfold shc lgin
 rw [List.setIfInBounds_toArray]
 rw [List.set_append_right _ _ (by simp [shP]), List.set_append_right _ _ (by rw [lgl_len h8]; simp [shP])]
 have e : 43 - (shP s).length - (lgl s.log sl).length = 0 := by rw [lgl_len h8]; rfl
 rw [e]
 rfl
end Go.Proofs.Ytokngfinnieccaa
