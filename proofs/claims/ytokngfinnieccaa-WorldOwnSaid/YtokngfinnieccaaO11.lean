/- Contracts of hot.Rev, flat and Head. Contract of hot.Read. Contracts of package disk. Contracts of disk.Sync and disk.Trim. The archive as a struct in a box: 47 cells; its small functions. -/
import Derived.Test.YtokngfinnieccaaO10
import Derived.IntWalk
import Derived.Test.YtokngfinnieccaaO1
import Derived.Test.YtokngfinnieccaaO2
import Derived.Test.YtokngfinnieccaaO9
namespace Go.Proofs.Ytokngfinnieccaa
open Go.ChangeShapes Go.WideShapes Go.RowKit
set_option linter.unusedVariables false
set_option linter.unusedSimpArgs false
set_option maxRecDepth 100000
set_option maxHeartbeats 4000000
def frB (r : Rv) : ByteArray := ⟨(txF (frR r)).toArray⟩
theorem hrev_good (a b : Int) (d : List Pt) (A : Option Addr) (n c : Nat) (w : World) (h : RdP w w.heap.size A n c d) (he : oneE (a, b, d) = 0) :
 Calls Try.prog 86 #[.agg #[.int .i64 a, .int .i64 b, .slice A n c]] w fun e w' => e = .returned (.tuple #[.string (frB (a, b, d)), .int .i64 0]) ∧ Below w.heap.size w w' := by
 obtain ⟨p1, p2, p3, p4, p5⟩ := one_parts he
 simp only at p1 p2 p3 p4 p5
 have hput := fun w => put_okF (frR (a, b, d)) (frR_ok he) w
 have hfr : (frR (a, b, d)).1 = 2 := rfl
 obtain ⟨Bd, hBd⟩ : ∃ Bd, (frR (a, b, d)).2 = Bd := ⟨_, rfl⟩
 have hBl : Bd.data.toList = bodyR (a, b, d) := by rw [← hBd]; rfl
 have hput2 : ∀ w, Calls Try.prog 111 #[.agg #[.int .i64 2, .string Bd]] w fun e w' => e = .returned (.tuple #[.string (frB (a, b, d)), .int .i64 0]) ∧ Below w.heap.size w w' := by
  intro w
  rw [← hBd, ← hfr]
  exact hput w
 obtain ⟨FB, hFB⟩ : ∃ FB, frB (a, b, d) = FB := ⟨_, rfl⟩
 rw [hFB] at hput2 ⊢
 obtain ⟨x, rfl⟩ := Int.eq_ofNat_of_zero_le p1
 obtain ⟨y, rfl⟩ := Int.eq_ofNat_of_zero_le p3
 obtain ⟨S1, hS1⟩ : ∃ S1 : ByteArray, S1.data.toList = viC [x, y] := ⟨⟨(viC [x, y]).toArray⟩, by simp⟩
 obtain ⟨S2, hS2⟩ : ∃ S2 : ByteArray, S2.data.toList = wrL d := ⟨⟨(wrL d).toArray⟩, by simp⟩
 have hcat : S1 ++ S2 = Bd := by
  apply ba_list
  rw [bs_append, hS1, hS2, hBl]
  simp [viC, bodyR]
 have hsz : (9223372036854775807 < S1.size + S2.size) = False := by
  have h1 : S1.data.toList.length = S1.size := rfl
  have h2 : S2.data.toList.length = S2.size := rfl
  have h3 : Bd.data.toList.length ≤ 4000 := by rw [hBl]; exact body_len he
  rw [← hcat, bs_append, List.length_append] at h3
  simp; omega
 have hc := one_any x y d A n c _ _ _ (h.stepA (.cells #[.int .i64 x, .int .i64 y, .slice A n c] 30)) (Nat.le_refl _) he
 have hb0 := (Below.refl w.heap.size w).alloc (Nat.le_refl _) (.cells #[.int .i64 x, .int .i64 y, .slice A n c] 30)
 have kr := Blk.new w 30 #[.int .i64 x, .int .i64 y, .slice A n c]
 have hn := (h.stepA (.cells #[.int .i64 x, .int .i64 y, .slice A n c] 30))
 have Hc := Lib.hid hc
 have Hn := Lib.hid hn
 have Hput := Lib.hid hput2
 have HS1 := Lib.hid hS1
 have HS2 := Lib.hid hS2
 have Hk := Lib.hid p5
 have Hcat := Lib.hid hcat
 clear hc hn h he hput hput2 hS1 hS2 p5 hcat hFB hBl hBd hfr p1 p3
 go_enter Try.func86, Try.ntmps86
 go_upto_region 1 with (fail)
 obtain ⟨W, hW⟩ : ∃ W, w.alloc (.cells #[.int .i64 x, .int .i64 y, .slice A n c] 30) = W := ⟨_, rfl⟩
 rw [hW] at hb0 kr Hc Hn ⊢
 clear hW
 obtain ⟨g, hg⟩ : ∃ g, w.heap.size = g := ⟨_, rfl⟩
 rw [hg] at kr ⊢
 have c0 := kr.cell 0
 have c1 := kr.cell 1
 have c2 := kr.cell 2
 have lr := kr.lt
 go_wp2_with fail
 refine Hc.out.mono ?_
 rintro e w1 ⟨rfl, hb⟩
 replace hb0 := hb0.trans (hb.mono hb0.size)
 replace kr := kr.below hb lr
 replace Hn := Lib.hid (Hn.out.step hb)
 clear hb c0 c1 c2 Hc
 have c0 := kr.cell 0
 have c1 := kr.cell 1
 have lr := kr.lt
 have hnum := nums_good [x, y] (some ⟨w1.heap.size, 0, none⟩) 2 2 (w1.alloc (.cells #[.int .i64 x, .int .i64 y] 3)) (RdI.builtS w1 #[.int .i64 x, .int .i64 y] [(x : Int), (y : Int)] 2 rfl rfl (by unfold maxLen; omega)) (by intro z hz; simp at hz; omega) (by simp) S1 HS1.out
 have hb1 := (Below.refl w1.heap.size w1).alloc (Nat.le_refl _) (.cells #[.int .i64 x, .int .i64 y] 3)
 have Hnum := Lib.hid hnum
 clear hnum
 go_wp2_with fail
 refine Hnum.out.mono ?_
 rintro e w2 ⟨rfl, hb⟩
 have hb2 := hb1.trans (hb.mono hb1.size)
 replace hb0 := hb0.trans (hb2.mono hb0.size)
 replace kr := kr.below hb2 lr
 replace Hn := Lib.hid (Hn.out.step hb2)
 clear hb hb1 hb2 c0 c1 Hnum
 have c2 := kr.cell 2
 have lr := kr.lt
 have hwr := cwrite_good d A n c _ w2 S2 Hn.out (Nat.le_refl _) Hk.out HS2.out
 have Hwr := Lib.hid hwr
 clear hwr
 go_wp2_with fail
 refine Hwr.out.mono ?_
 rintro e w3 ⟨rfl, hb⟩
 replace hb0 := hb0.trans (hb.mono hb0.size)
 clear hb c2 Hwr lr kr
 go_wp2_with fail
 rw [Hcat.out]
 refine (Hput.out w3).mono ?_
 rintro e w4 ⟨rfl, hb⟩
 go_wp2_with fail
 go_ret2
 exact ⟨rfl, hb0.trans (hb.mono hb0.size)⟩
theorem sess_at0 (p0 p1 p2 p3 p4 p5 p6 p7 : Int × Int) (w : World) : (Instr.index 79 (.agg (tc [p0, p1, p2, p3, p4, p5, p6, p7]).toArray) (.int .i64 0)).run Try.prog w = .ok (.agg #[.int .i64 p0.1, .int .i64 p0.2]) w := by kernel_rfl
theorem sess_at1 (p0 p1 p2 p3 p4 p5 p6 p7 : Int × Int) (w : World) : (Instr.index 79 (.agg (tc [p0, p1, p2, p3, p4, p5, p6, p7]).toArray) (.int .i64 1)).run Try.prog w = .ok (.agg #[.int .i64 p1.1, .int .i64 p1.2]) w := by kernel_rfl
theorem sess_at2 (p0 p1 p2 p3 p4 p5 p6 p7 : Int × Int) (w : World) : (Instr.index 79 (.agg (tc [p0, p1, p2, p3, p4, p5, p6, p7]).toArray) (.int .i64 2)).run Try.prog w = .ok (.agg #[.int .i64 p2.1, .int .i64 p2.2]) w := by kernel_rfl
theorem sess_at3 (p0 p1 p2 p3 p4 p5 p6 p7 : Int × Int) (w : World) : (Instr.index 79 (.agg (tc [p0, p1, p2, p3, p4, p5, p6, p7]).toArray) (.int .i64 3)).run Try.prog w = .ok (.agg #[.int .i64 p3.1, .int .i64 p3.2]) w := by kernel_rfl
theorem sess_at4 (p0 p1 p2 p3 p4 p5 p6 p7 : Int × Int) (w : World) : (Instr.index 79 (.agg (tc [p0, p1, p2, p3, p4, p5, p6, p7]).toArray) (.int .i64 4)).run Try.prog w = .ok (.agg #[.int .i64 p4.1, .int .i64 p4.2]) w := by kernel_rfl
theorem sess_at5 (p0 p1 p2 p3 p4 p5 p6 p7 : Int × Int) (w : World) : (Instr.index 79 (.agg (tc [p0, p1, p2, p3, p4, p5, p6, p7]).toArray) (.int .i64 5)).run Try.prog w = .ok (.agg #[.int .i64 p5.1, .int .i64 p5.2]) w := by kernel_rfl
theorem sess_at6 (p0 p1 p2 p3 p4 p5 p6 p7 : Int × Int) (w : World) : (Instr.index 79 (.agg (tc [p0, p1, p2, p3, p4, p5, p6, p7]).toArray) (.int .i64 6)).run Try.prog w = .ok (.agg #[.int .i64 p6.1, .int .i64 p6.2]) w := by kernel_rfl
theorem sess_at7 (p0 p1 p2 p3 p4 p5 p6 p7 : Int × Int) (w : World) : (Instr.index 79 (.agg (tc [p0, p1, p2, p3, p4, p5, p6, p7]).toArray) (.int .i64 7)).run Try.prog w = .ok (.agg #[.int .i64 p7.1, .int .i64 p7.2]) w := by kernel_rfl
theorem sess_at (t : Tb) (h : t.length = 8) (k : Nat) (hk : k < 8) (w : World) : (Instr.index 79 (.agg (tc t).toArray) (.int .i64 k)).run Try.prog w = .ok (.agg #[.int .i64 (t[k]'(by omega)).1, .int .i64 (t[k]'(by omega)).2]) w := by
 match t, h with
 | [p0, p1, p2, p3, p4, p5, p6, p7], _ =>
   have hj8 : k = 0 ∨ k = 1 ∨ k = 2 ∨ k = 3 ∨ k = 4 ∨ k = 5 ∨ k = 6 ∨ k = 7 := by omega
   rcases hj8 with rfl | rfl | rfl | rfl | rfl | rfl | rfl | rfl
   · exact sess_at0 p0 p1 p2 p3 p4 p5 p6 p7 w
   · exact sess_at1 p0 p1 p2 p3 p4 p5 p6 p7 w
   · exact sess_at2 p0 p1 p2 p3 p4 p5 p6 p7 w
   · exact sess_at3 p0 p1 p2 p3 p4 p5 p6 p7 w
   · exact sess_at4 p0 p1 p2 p3 p4 p5 p6 p7 w
   · exact sess_at5 p0 p1 p2 p3 p4 p5 p6 p7 w
   · exact sess_at6 p0 p1 p2 p3 p4 p5 p6 p7 w
   · exact sess_at7 p0 p1 p2 p3 p4 p5 p6 p7 w
theorem tab_row {W : World} {g : Nat} {t : Tb} (h : Blk W g 79 (tc t).toArray) (ht : t.length = 8) : (loadVar 79 ⟨g, 0, none⟩).run Try.prog W = .ok (.agg (tc t).toArray) W :=
 run_loadVar_row (P := Try.prog) W g 79 79 _ _ _ h Try.underlying79 rfl (by rw [List.size_toArray, tc_len, ht]; exact tabS_info)
def fl (t : Tb) : List Int := t.flatMap fun p => [p.1, p.2]
theorem fl_len : ∀ t : Tb, (fl t).length = 2 * t.length
 | [] => rfl
 | p :: t => by have := fl_len t; simp only [fl, List.flatMap_cons, List.length_append, List.length_cons, List.length_nil] at this ⊢; omega
theorem hflat_any (gn bs : Int) (t : Tb) (ht : t.length = 8) (w : World) :
 Calls Try.prog 110 #[.int .i64 gn, .int .i64 bs, .agg (tc t).toArray] w fun e w' => ∃ A c, e = .returned (.slice A 18 c) ∧ RdI w' w'.heap.size A 18 c (gn :: bs :: fl t) ∧ Below w.heap.size w w' := by
 have Ht := Lib.hid ht
 have hb0 := (Below.refl w.heap.size w).alloc (Nat.le_refl _) (.cells (tc t).toArray 79)
 have kt := Blk.new w 79 (tc t).toArray
 go_enter Try.func110, Try.ntmps110
 go_upto_region 1 with (fail)
 obtain ⟨W, hW⟩ : ∃ W, w.alloc (.cells (tc t).toArray 79) = W := ⟨_, rfl⟩
 rw [hW] at hb0 kt ⊢
 clear hW
 obtain ⟨g, hg⟩ : ∃ g, w.heap.size = g := ⟨_, rfl⟩
 rw [hg] at kt hb0 ⊢
 have lt := kt.lt
 go_upto_region 2 with (fail)
 have ho : OwnI (W.alloc (.cells #[.int .i64 gn, .int .i64 bs] 3)) g (.slice (some ⟨W.heap.size, 0, none⟩) 2 2) [gn, bs] := World.ownsRow_lit W #[.int .i64 gn, .int .i64 bs] 2 (by omega) (by decide) rfl
 replace hb0 := hb0.alloc (by omega) (.cells #[.int .i64 gn, .int .i64 bs] 3)
 replace kt := kt.alloc (.cells #[.int .i64 gn, .int .i64 bs] 3)
 obtain ⟨V, hV⟩ : ∃ V, W.alloc (.cells #[.int .i64 gn, .int .i64 bs] 3) = V := ⟨_, rfl⟩
 rw [hV] at hb0 kt ho ⊢
 clear hV
 obtain ⟨z, hz⟩ : ∃ z, W.heap.size = z := ⟨_, rfl⟩
 rw [hz] at ho ⊢
 have lt := kt.lt
 have Ho := Lib.hid ho
 have Hb := Lib.hid hb0
 have Hg := Lib.hid hg
 clear ho hb0 hz hg
 go_upto_region 3 with (first | (refine wpList_load_blk rfl _ (.tmp 5) rfl g rfl _ (tab_row kt Ht.out) ?_))
 clear kt lt
 go_loopw [7, 9, 14] (fun vv q iv wr => ∃ (k n c : Nat) (A : Option Addr), k ≤ 8 ∧ iv = .int .i64 k ∧ vv = .slice A n c ∧ n = 2 * k + 2 ∧ Hid (OwnI wr g (.slice A n c) (gn :: bs :: fl (t.take k))) ∧ Hid (Below g w wr)) (fun _ _ iv _ => 8 - (intOf iv).toNat)
 case atStart => exact ⟨0, 2, 2, _, by omega, rfl, rfl, rfl, Ho, Hb⟩
 case round =>
  obtain ⟨k, n, c, A, hk, rfl, rfl, hn, hO, hbw⟩ := hrel
  by_cases hlt : k < 8
  · have hkl : k < t.length := by have := Ht.out; omega
    have hx := sess_at t Ht.out k hlt
    have hts := Lib.hid (show fl (t.take (k + 1)) = fl (t.take k) ++ [(t[k]'hkl).1, (t[k]'hkl).2] by unfold fl; rw [List.take_succ_eq_append_getElem hkl, List.flatMap_append]; rfl)
    obtain ⟨p, hp⟩ : ∃ p, p = t[k] := ⟨_, rfl⟩
    rw [← hp] at hts
    simp only [← hp] at hx
    clear hp
    obtain ⟨a, b⟩ := p
    simp only at hts hx
    have hk0 : (0 : Int) ≤ (k : Int) := by omega
    have hk8 : (k : Int) < 8 := by omega
    have hgw : g ≤ wr.heap.size := by have := hbw.out.size; have := Hg.out; omega
    have hxw := hx wr
    clear hx
    go_upto_region 5 with (fail)
    have hO2 := World.ownsRow.alloc hO.out (.cells #[.int .i64 a, .int .i64 b] 74)
    have hbw2 := hbw.out.alloc hgw (.cells #[.int .i64 a, .int .i64 b] 74)
    have kq := Blk.new wr 74 #[.int .i64 a, .int .i64 b]
    have hs1 : (wr.alloc (.cells #[.int .i64 a, .int .i64 b] 74)).heap.size = wr.heap.size + 1 := World.size_alloc _ _
    obtain ⟨U, hU⟩ : ∃ U, wr.alloc (.cells #[.int .i64 a, .int .i64 b] 74) = U := ⟨_, rfl⟩
    rw [hU] at hO2 hbw2 kq hs1 ⊢
    clear hU hxw
    obtain ⟨z, hz⟩ : ∃ z, wr.heap.size = z := ⟨_, rfl⟩
    rw [hz] at kq hs1 hgw ⊢
    have c0 := kq.cell 0
    have c1 := kq.cell 1
    have lq := kq.lt
    have hgU : g ≤ U.heap.size := by omega
    have hO3 : OwnI (U.alloc (.cells #[.int .i64 a, .int .i64 b] 3)) g (.slice A n c) (gn :: bs :: fl (t.take k)) := by
     have := World.ownsRow.alloc hO2 (.cells #[.int .i64 a, .int .i64 b] 3)
     exact this
    have hlen : (gn :: bs :: fl (t.take k)).length + 2 ≤ 4000000 := by
     simp only [List.length_cons, fl_len, List.length_take]; omega
    have hR := RdI.built U #[.int .i64 a, .int .i64 b] [a, b] 2 rfl rfl (by decide)
    have hgU2 : g ≤ (U.alloc (.cells #[.int .i64 a, .int .i64 b] 3)).heap.size := by rw [World.size_alloc]; omega
    have hbw3 := hbw2.alloc hgU (.cells #[.int .i64 a, .int .i64 b] 3)
    have HO3 := Lib.hid hO3
    have Hlen := Lib.hid hlen
    have HR := Lib.hid hR
    have Hbw3 := Lib.hid hbw3
    have HgU2 := Lib.hid hgU2
    clear hO2 hO3 hlen hR hbw2 hbw3 hgU2 hs1
    go_wp2_with (first | (at_builtin; refine wpList_app_intsG _ rfl (.tmp 17) (.tmp 22) rfl g (.slice A n c) _ rfl HO3.out _ 2 2 _ [a, b] rfl HR.out Hlen.out HgU2.out ?_; intro v1 w1 g1 g2 g3))
    go_roundw
    case rel =>
     obtain ⟨A1, c1, hv1, -⟩ := OwnI.rd g1
     have hl2 : ((gn :: bs :: fl (t.take k)) ++ [a, b]).length = 2 * (k + 1) + 2 := by
      simp only [List.length_append, List.length_cons, List.length_nil, fl_len, List.length_take]; have := Ht.out; omega
     rw [hl2] at hv1
     subst hv1
     refine ⟨k + 1, 2 * (k + 1) + 2, c1, A1, by omega, by go_num, rfl, rfl, Lib.hid ?_, Lib.hid (Hbw3.out.trans g2)⟩
     rw [hts.out]
     exact g1
    case measure => simp [intOf]; omega
  · obtain rfl : k = 8 := by omega
    subst hn
    go_wp2_with fail
    go_ret
    have h1 := hO.out
    rw [List.take_of_length_le (by have := Ht.out; omega)] at h1
    obtain ⟨A1, c1, hv1, hr⟩ := OwnI.rd h1
    have hl2 : (gn :: bs :: fl t).length = 18 := by simp only [List.length_cons, fl_len]; have := Ht.out; omega
    rw [hl2] at hv1 hr
    injection hv1 with e1 e2 e3
    subst e1; subst e3
    exact ⟨_, _, rfl, hr, Hg.out ▸ hbw.out⟩
def hdB (g b : Nat) (t : List (Nat × Nat)) (text : ByteArray) : ByteArray := ⟨(txF (1, ⟨(headB ((g, b) :: t) text).toArray⟩)).toArray⟩
def tbN (t : List (Nat × Nat)) : Tb := t.map fun p => ((p.1 : Int), (p.2 : Int))
def flN (t : List (Nat × Nat)) : List Nat := t.flatMap fun p => [p.1, p.2]
theorem flN_map (t : List (Nat × Nat)) : (flN t).map Int.ofNat = fl (tbN t) := by
 induction t with
 | nil => rfl
 | cons p t ih =>
   simp only [flN, fl, tbN, List.flatMap_cons, List.map_cons, List.map_append, List.map_nil, List.map_flatMap] at ih ⊢
   simp only [List.cons_append, List.nil_append]
   rw [ih]
   rfl
theorem flN_vi (t : List (Nat × Nat)) : viC (flN t) = tkB t := by
 induction t with
 | nil => rfl
 | cons p t ih =>
   simp only [viC, flN, tkB, List.flatMap_cons, List.flatMap_append, List.flatMap_nil, List.append_nil] at ih ⊢
   rw [ih]
theorem flN_len : ∀ t : List (Nat × Nat), (flN t).length = 2 * t.length
 | [] => rfl
 | p :: t => by have := flN_len t; simp only [flN, List.flatMap_cons, List.length_append, List.length_cons, List.length_nil] at this ⊢; omega
theorem flN_le (t : List (Nat × Nat)) (h : ∀ p ∈ t, p.1 ≤ 2147483647 ∧ p.2 ≤ 2147483647) : ∀ x ∈ flN t, x ≤ 2147483647 := by
 intro x hx
 unfold flN at hx
 obtain ⟨p, hp, hx⟩ := List.mem_flatMap.1 hx
 have := h p hp
 simp only [List.mem_cons, List.not_mem_nil, or_false] at hx
 rcases hx with rfl | rfl <;> omega
theorem hhead_large (g b : Nat) (t : List (Nat × Nat)) (text : ByteArray) (ht : t.length = 8) (hg : g ≤ 2147483647) (hb : b ≤ 2147483647) (hp : ∀ p ∈ t, p.1 ≤ 2147483647 ∧ p.2 ≤ 2147483647) (w : World) (hx : 500 < text.size) (hx2 : text.size ≤ 140737488351232) :
 Calls Try.prog 81 #[.int .i64 g, .int .i64 b, .string text, .agg (tc (tbN t)).toArray] w fun e w' => e = .returned (.tuple #[.string ⟨#[]⟩, .int .i64 2]) ∧ Below w.heap.size w w' := by
 have htb : (tbN t).length = 8 := by simp [tbN, ht]
 have hfl := fun w => hflat_any g b (tbN t) htb w
 have hmap : (g :: b :: flN t).map Int.ofNat = (g : Int) :: (b : Int) :: fl (tbN t) := by simp only [List.map_cons]; rw [flN_map]; rfl
 obtain ⟨S, hS⟩ : ∃ S : ByteArray, S.data.toList = viC (g :: b :: flN t) := ⟨⟨(viC (g :: b :: flN t)).toArray⟩, by simp⟩
 have hnum := fun A c w (h : RdI w w.heap.size A 18 c ((g : Int) :: (b : Int) :: fl (tbN t))) => nums_good (g :: b :: flN t) A 18 c w (by rw [hmap]; exact h) (by
  intro x hx
  rcases List.mem_cons.1 hx with rfl | hx
  · exact hg
  · rcases List.mem_cons.1 hx with rfl | hx
    · exact hb
    · exact flN_le t hp x hx) (by simp only [List.length_cons, flN_len]; omega) S hS
 have Hfl := Lib.hid hfl
 have Hnum := Lib.hid hnum
 have Htb := Lib.hid htb
 have hb0 := (Below.refl w.heap.size w).alloc (Nat.le_refl _) (.cells (tc (tbN t)).toArray 79)
 have kt := Blk.new w 79 (tc (tbN t)).toArray
 have hx3 : (500 : Int) < (text.size : Int) := by omega
 clear hfl hnum htb hmap hp hS
 go_enter Try.func81, Try.ntmps81
 go_upto_region 1 with (fail)
 obtain ⟨W, hW⟩ : ∃ W, w.alloc (.cells (tc (tbN t)).toArray 79) = W := ⟨_, rfl⟩
 rw [hW] at hb0 kt ⊢
 clear hW
 obtain ⟨z, hz⟩ : ∃ z, w.heap.size = z := ⟨_, rfl⟩
 rw [hz] at kt hb0 ⊢
 go_wp2_with (first | (refine wpList_load_blk rfl _ (.tmp 7) rfl z rfl _ (tab_row kt Htb.out) ?_))
 refine (Hfl.out W).mono ?_
 rintro e w1 ⟨A, c, rfl, hr, hb1⟩
 have HR := Lib.hid hr
 have hs1 : z ≤ W.heap.size := by have := hb0.size; omega
 replace hb0 := hb0.trans (hb1.mono hs1)
 have hs2 := hb1.size
 clear hr hb1
 go_wp2_with fail
 refine (Hnum.out A c w1 HR.out).mono ?_
 rintro e w2 ⟨rfl, hb2⟩
 go_wp2_with fail
 go_ret2
 exact ⟨rfl, hz ▸ hb0.trans (hb2.mono (by omega))⟩
theorem hhead_good (g b : Nat) (t : List (Nat × Nat)) (text : ByteArray) (ht : t.length = 8) (hg : g ≤ 2147483647) (hb : b ≤ 2147483647) (hp : ∀ p ∈ t, p.1 ≤ 2147483647 ∧ p.2 ≤ 2147483647) (w : World) (hx : text.size ≤ 500) :
 Calls Try.prog 81 #[.int .i64 g, .int .i64 b, .string text, .agg (tc (tbN t)).toArray] w fun e w' => e = .returned (.tuple #[.string (hdB g b t text), .int .i64 0]) ∧ Below w.heap.size w w' := by
 have htb : (tbN t).length = 8 := by simp [tbN, ht]
 have hfl := fun w => hflat_any g b (tbN t) htb w
 have hmap : (g :: b :: flN t).map Int.ofNat = (g : Int) :: (b : Int) :: fl (tbN t) := by simp only [List.map_cons]; rw [flN_map]; rfl
 obtain ⟨S, hS⟩ : ∃ S : ByteArray, S.data.toList = viC (g :: b :: flN t) := ⟨⟨(viC (g :: b :: flN t)).toArray⟩, by simp⟩
 have hpq : ∀ p ∈ (g, b) :: t, p.1 ≤ 2147483647 ∧ p.2 ≤ 2147483647 := by
  intro p hpp
  rcases List.mem_cons.1 hpp with rfl | hpp
  · exact ⟨hg, hb⟩
  · exact hp p hpp
 have hnum := fun A c w (h : RdI w w.heap.size A 18 c ((g : Int) :: (b : Int) :: fl (tbN t))) => nums_good (g :: b :: flN t) A 18 c w (by rw [hmap]; exact h) (fun x hx => flN_le ((g, b) :: t) hpq x hx) (by simp only [List.length_cons, flN_len]; omega) S hS
 have hSl : S.data.toList = tkB ((g, b) :: t) := by rw [hS]; exact flN_vi ((g, b) :: t)
 have hlen := tkB_len ((g, b) :: t) hpq
 rw [List.length_cons, ht] at hlen
 have hS90 : S.size ≤ 90 := by
  have h1 : S.data.toList.length = S.size := rfl
  rw [hSl] at h1
  omega
 have hcat : (⟨(headB ((g, b) :: t) text).toArray⟩ : ByteArray) = S ++ text := by
  apply ba_list
  rw [bs_append, hSl]
  simp [headB]
 have hput := fun w => put_okF (1, S ++ text) ⟨by show (1 : Int) ≤ 1; decide, by show (1 : Int) ≤ 255; decide, by show (S ++ text).size ≤ 4000; simp; omega⟩ w
 have hBB : (⟨(txF (1, S ++ text)).toArray⟩ : ByteArray) = hdB g b t text := by unfold hdB; rw [hcat]
 rw [hBB] at hput
 obtain ⟨HB, hHB⟩ : ∃ HB, hdB g b t text = HB := ⟨_, rfl⟩
 rw [hHB] at hput ⊢
 have Hput := Lib.hid hput
 have Hfl := Lib.hid hfl
 have Hnum := Lib.hid hnum
 have Htb := Lib.hid htb
 have hb0 := (Below.refl w.heap.size w).alloc (Nat.le_refl _) (.cells (tc (tbN t)).toArray 79)
 have kt := Blk.new w 79 (tc (tbN t)).toArray
 have hx3 : (text.size : Int) ≤ 500 := by omega
 have hsz : (9223372036854775807 < S.size + text.size) = False := by simp; omega
 clear hfl hnum htb hmap hp hS hpq hSl hlen hput hBB hHB hcat
 go_enter Try.func81, Try.ntmps81
 go_upto_region 1 with (fail)
 obtain ⟨W, hW⟩ : ∃ W, w.alloc (.cells (tc (tbN t)).toArray 79) = W := ⟨_, rfl⟩
 rw [hW] at hb0 kt ⊢
 clear hW
 obtain ⟨z, hz⟩ : ∃ z, w.heap.size = z := ⟨_, rfl⟩
 rw [hz] at kt hb0 ⊢
 go_wp2_with (first | (refine wpList_load_blk rfl _ (.tmp 7) rfl z rfl _ (tab_row kt Htb.out) ?_))
 refine (Hfl.out W).mono ?_
 rintro e w1 ⟨A, c, rfl, hr, hb1⟩
 have HR := Lib.hid hr
 have hs1 : z ≤ W.heap.size := by have := hb0.size; omega
 replace hb0 := hb0.trans (hb1.mono hs1)
 have hs2 := hb1.size
 clear hr hb1
 go_wp2_with fail
 refine (Hnum.out A c w1 HR.out).mono ?_
 rintro e w2 ⟨rfl, hb2⟩
 replace hb0 := hb0.trans (hb2.mono (by omega))
 have hs3 := hb2.size
 clear hb2
 go_wp2_with fail
 refine (Hput.out w2).mono ?_
 rintro e w3 ⟨rfl, hb3⟩
 go_wp2_with fail
 go_ret2
 exact ⟨rfl, hz ▸ hb0.trans (hb3.mono (by omega))⟩

abbrev Slt := ByteArray × Int
def dvl (x y : Slt) : Value := .agg #[.string x.1, .int .i64 x.2, .string y.1, .int .i64 y.2]
def sbad (s : Slt) : Int := if 1048576 < (s.1.size : Int) then 2 else if s.2 < 0 ∨ (s.1.size : Int) < s.2 then 3 else 0
def dchk (x y : Slt) : Int := if sbad x ≠ 0 then sbad x else sbad y
theorem sbad_cases (s : Slt) : (1048576 < (s.1.size : Int) ∧ sbad s = 2) ∨ ((s.1.size : Int) ≤ 1048576 ∧ (s.2 < 0 ∨ (s.1.size : Int) < s.2) ∧ sbad s = 3) ∨ ((s.1.size : Int) ≤ 1048576 ∧ 0 ≤ s.2 ∧ s.2 ≤ (s.1.size : Int) ∧ sbad s = 0) := by
 unfold sbad
 split
 · exact .inl ⟨by omega, rfl⟩
 · split
   · exact .inr (.inl ⟨by omega, by assumption, rfl⟩)
   · exact .inr (.inr ⟨by omega, by omega, by omega, rfl⟩)
theorem slot_at0 (a b : ByteArray) (sa sb : Int) (w : World) : (Instr.index 68 (.agg #[.string a, .int .i64 sa, .string b, .int .i64 sb]) (.int .i64 0)).run Try.prog w = .ok (.agg #[.string a, .int .i64 sa]) w := by kernel_rfl
theorem slot_at1 (a b : ByteArray) (sa sb : Int) (w : World) : (Instr.index 68 (.agg #[.string a, .int .i64 sa, .string b, .int .i64 sb]) (.int .i64 1)).run Try.prog w = .ok (.agg #[.string b, .int .i64 sb]) w := by kernel_rfl
theorem dcheck_any (x y : Slt) (w : World) :
 Calls Try.prog 98 #[dvl x y] w fun e w' => e = .returned (.int .i64 (dchk x y)) ∧ Below w.heap.size w w' := by
 obtain ⟨a, sa⟩ := x
 obtain ⟨b, sb⟩ := y
 unfold dvl
 simp only
 have i0 := slot_at0 a b sa sb
 have i1 := slot_at1 a b sa sb
 go_enter Try.func98, Try.ntmps98
 go_wp2_with fail
 refine wp_loop_rounds 3 ?_
 rw [rounds_succ]
 have bl : ∀ o o' : Obj, Below w.heap.size w ((w.alloc o).alloc o') := fun o o' => ((Below.refl _ _).alloc (Nat.le_refl _) _).alloc (by simp) _
 have bl3 : ∀ o o' o2 : Obj, Below w.heap.size w (((w.alloc o).alloc o').alloc o2) := fun o o' o2 => (((Below.refl _ _).alloc (Nat.le_refl _) _).alloc (by simp) _).alloc (by simp; omega) _
 have Bl := Lib.hid bl
 have Bl3 := Lib.hid bl3
 clear bl bl3
 rcases sbad_cases (a, sa) with h | h | h
 · simp only at h
   obtain ⟨h1, h2⟩ := h
   have hd : dchk (a, sa) (b, sb) = 2 := by unfold dchk; rw [h2]; rfl
   have Hd := Lib.hid hd
   clear h2 hd
   go_wp2_with fail
   go_ret
   exact ⟨by rw [Hd.out]; rfl, Bl.out _ _⟩
 · simp only at h
   obtain ⟨h1, h3, h2⟩ := h
   have hd : dchk (a, sa) (b, sb) = 3 := by unfold dchk; rw [h2]; rfl
   have Hd := Lib.hid hd
   clear h2 hd
   by_cases h4 : sa < 0
   all_goals go_wp2_with fail
   all_goals (first | omega | (go_ret; exact ⟨by rw [Hd.out]; rfl, Bl.out _ _⟩))
 · simp only at h
   obtain ⟨h1, h3, h4, h2⟩ := h
   have hd0 : dchk (a, sa) (b, sb) = sbad (b, sb) := by unfold dchk; rw [h2]; rfl
   rcases sbad_cases (b, sb) with k | k | k
   · simp only at k
     obtain ⟨k1, k2⟩ := k
     rw [k2] at hd0
     have Hd := Lib.hid hd0
     clear h2 hd0 k2
     go_wp2_with fail
     rw [rounds_succ]
     go_wp2_with fail
     go_ret
     exact ⟨by rw [Hd.out]; rfl, Bl3.out _ _ _⟩
   · simp only at k
     obtain ⟨k1, k3, k2⟩ := k
     rw [k2] at hd0
     have Hd := Lib.hid hd0
     clear h2 hd0 k2
     by_cases h5 : sb < 0
     all_goals go_wp2_with fail
     all_goals rw [rounds_succ]
     all_goals go_wp2_with fail
     all_goals (first | omega | (go_ret; exact ⟨by rw [Hd.out]; rfl, Bl3.out _ _ _⟩))
   · simp only at k
     obtain ⟨k1, k3, k4, k2⟩ := k
     rw [k2] at hd0
     have Hd := Lib.hid hd0
     clear h2 hd0 k2
     go_wp2_with fail
     rw [rounds_succ]
     go_wp2_with fail
     rw [rounds_succ]
     go_wp2_with fail
     go_ret
     exact ⟨by rw [Hd.out]; rfl, Bl3.out _ _ _⟩
def dlook (x y : Slt) (i : Int) : Int := if dchk x y ≠ 0 then dchk x y else if i < 0 ∨ 2 ≤ i then 1 else 0
theorem dlook_any (x y : Slt) (i : Int) (w : World) :
 Calls Try.prog 125 #[dvl x y, .int .i64 i] w fun e w' => e = .returned (.int .i64 (dlook x y i)) ∧ Below w.heap.size w w' := by
 obtain ⟨a, sa⟩ := x
 obtain ⟨b, sb⟩ := y
 unfold dvl
 simp only
 go_enter Try.func125, Try.ntmps125
 go_wp2_with fail
 refine (dcheck_any (a, sa) (b, sb) _).mono ?_
 rintro e w1 ⟨rfl, hb1⟩
 have hbw : Below w.heap.size w w1 := ((Below.refl w.heap.size w).alloc (Nat.le_refl _) _).trans (hb1.mono (by simp))
 clear hb1
 by_cases hc : dchk (a, sa) (b, sb) = 0
 · rw [hc]
   by_cases h1 : i < 0
   · have hd : dlook (a, sa) (b, sb) i = 1 := by unfold dlook; rw [hc]; simp [h1]
     have Hd := Lib.hid hd
     clear hd hc
     go_wp2_with fail
     go_ret
     exact ⟨by rw [Hd.out]; rfl, hbw⟩
   by_cases h2 : 2 ≤ i
   · have hd : dlook (a, sa) (b, sb) i = 1 := by unfold dlook; rw [hc]; simp [h2]
     have Hd := Lib.hid hd
     clear hd hc
     go_wp2_with fail
     go_ret
     exact ⟨by rw [Hd.out]; rfl, hbw⟩
   · have hd : dlook (a, sa) (b, sb) i = 0 := by unfold dlook; rw [hc]; simp; omega
     have Hd := Lib.hid hd
     clear hd hc
     go_wp2_with fail
     go_ret
     exact ⟨by rw [Hd.out]; rfl, hbw⟩
 · have hd : dlook (a, sa) (b, sb) i = dchk (a, sa) (b, sb) := by unfold dlook; simp [hc]
   have hne : ((dchk (a, sa) (b, sb)) != 0) = true := by simpa using hc
   have Hd := Lib.hid hd
   clear hd hc
   go_wp2_with fail
   go_ret
   exact ⟨by rw [Hd.out]; rfl, hbw⟩
def dres (x y : Slt) (e : Int) : Value := .tuple #[dvl x y, .int .i64 e]
def dzero : Slt := (⟨#[]⟩, 0)
theorem disk_end {fn : Func} {R : Ending → World → Prop} {a : Act} {W : World} {g : Nat} {x y : Slt} {e : Int} {p q : Tmp} (hres : fn.results = #[.cell p 70, .tmp q])
 (hp : a.tmps.getD p undef = .pointer (some ⟨g, 0, none⟩)) (hq : a.tmps.getD q undef = .int .i64 e) (hd : a.defers = [])
 (hB : Blk W g 70 #[.string x.1, .int .i64 x.2, .string y.1, .int .i64 y.2]) (hR : R (.returned (dres x y e)) W) : bodyPost Try.prog fn R .ret a W := by
 refine bodyPost_ret (v := dres x y e) ?_ hd hR
 have hl := run_loadVar_row (P := Try.prog) W g 70 70 _ _ _ hB Try.underlying70 rfl (by kernel_rfl)
 have hp' : a.tmps[p]?.getD undef = .pointer (some ⟨g, 0, none⟩) := by simpa using hp
 have hq' : a.tmps[q]?.getD undef = .int .i64 e := by simpa using hq
 simp [results, hres, hp', hq', asAddr, hl, dres, dvl]
theorem dlook_zero (x y : Slt) (i : Int) (h : dlook x y i = 0) : (i = 0 ∨ i = 1) ∧ (x.1.size : Int) ≤ 1048576 ∧ (y.1.size : Int) ≤ 1048576 ∧ 0 ≤ x.2 ∧ x.2 ≤ (x.1.size : Int) ∧ 0 ≤ y.2 ∧ y.2 ≤ (y.1.size : Int) := by
 unfold dlook dchk at h
 rcases sbad_cases x with hx | hx | hx <;> rcases sbad_cases y with hy | hy | hy <;> simp [hx, hy] at h <;> omega
def dapp (x y : Slt) (i : Int) (s : ByteArray) : Slt × Slt × Int :=
 if i = 0 then (if 1048576 < x.1.size + s.size then (dzero, dzero, 2) else ((x.1 ++ s, x.2), y, 0))
 else (if 1048576 < y.1.size + s.size then (dzero, dzero, 2) else (x, (y.1 ++ s, y.2), 0))
theorem dappend_good (x y : Slt) (i : Int) (s : ByteArray) (hs : s.size ≤ 140737488351232) (w : World) (h : dlook x y i = 0) :
 Calls Try.prog 112 #[dvl x y, .int .i64 i, .string s] w fun e w' => e = .returned (dres (dapp x y i s).1 (dapp x y i s).2.1 (dapp x y i s).2.2) ∧ Below w.heap.size w w' := by
 obtain ⟨a, sa⟩ := x
 obtain ⟨b, sb⟩ := y
 unfold dvl
 simp only
 have hz := dlook_zero _ _ _ h
 simp only at hz
 obtain ⟨hi, ha, hb, ha0, ha1, hb0, hb1'⟩ := hz
 go_enter Try.func112, Try.ntmps112
 go_wp2_with fail
 refine (dlook_any (a, sa) (b, sb) i _).mono ?_
 rintro e w1 ⟨rfl, hb1⟩
 have hD := ((Blk.new w 70 #[.string a, .int .i64 sa, .string b, .int .i64 sb]).alloc (.cells #[.string ⟨#[]⟩, .int .i64 0, .string ⟨#[]⟩, .int .i64 0] 70)).below hb1 (by simp; omega)
 have hR := (Blk.new (w.alloc (.cells #[.string a, .int .i64 sa, .string b, .int .i64 sb] 70)) 70 #[.string ⟨#[]⟩, .int .i64 0, .string ⟨#[]⟩, .int .i64 0]).below hb1 (by simp)
 simp only [World.size_alloc] at hR
 have hbw : Below w.heap.size w w1 := (((Below.refl w.heap.size w).alloc (Nat.le_refl _) _).alloc (by simp) _).trans (hb1.mono (by simp; omega))
 rw [h]
 have c0 := hR.cell 0
 have c1 := hR.cell 1
 have c2 := hR.cell 2
 have c3 := hR.cell 3
 have f0 := hR.frozen 0
 have f1 := hR.frozen 1
 have f2 := hR.frozen 2
 have f3 := hR.frozen 3
 have d0 := hD.cell 0
 have d1 := hD.cell 1
 have d2 := hD.cell 2
 have d3 := hD.cell 3
 have g0 := hD.frozen 0
 have g1 := hD.frozen 1
 have g2 := hD.frozen 2
 have g3 := hD.frozen 3
 clear hb1 h
 have HR := Lib.hid hR
 have HD := Lib.hid hD
 clear hR hD
 rcases hi with rfl | rfl
 · by_cases hl : 1048576 < (a.size : Int) + s.size
   · have he : dapp (a, sa) (b, sb) 0 s = (dzero, dzero, 2) := by unfold dapp; rw [if_pos rfl, if_pos (by simp only; omega)]
     have he' := Lib.hid he
     clear he
     go_wp2_with fail
     exact disk_end (g := w.heap.size + 1) (x := dzero) (y := dzero) (e := 2) rfl rfl rfl rfl ((((HR.out.set_ 0 _).set_ 1 _).set_ 2 _).set_ 3 _)
      ⟨by rw [he'.out], (((hbw.setCell (p := ⟨w.heap.size + 1, 0, none⟩) (by simp) _).setCell (p := ⟨w.heap.size + 1, 1, none⟩) (by simp) _).setCell (p := ⟨w.heap.size + 1, 2, none⟩) (by simp) _).setCell (p := ⟨w.heap.size + 1, 3, none⟩) (by simp) _⟩
   · have he : dapp (a, sa) (b, sb) 0 s = ((a ++ s, sa), (b, sb), 0) := by unfold dapp; rw [if_pos rfl, if_neg (by simp only; omega)]
     have he' := Lib.hid he
     clear he
     go_wp2_with fail
     refine disk_end (g := w.heap.size + 1) (x := (a ++ s, sa)) (y := (b, sb)) (e := 0) rfl rfl rfl rfl ((((((HR.out.far (p := ⟨w.heap.size, 0, none⟩) (by simp) _)).set_ 0 _).set_ 1 _).set_ 2 _).set_ 3 _)
      ⟨by rw [he'.out], ((((hbw.setCell (p := ⟨w.heap.size, 0, none⟩) (by simp) _).setCell (p := ⟨w.heap.size + 1, 0, none⟩) (by simp) _).setCell (p := ⟨w.heap.size + 1, 1, none⟩) (by simp) _).setCell (p := ⟨w.heap.size + 1, 2, none⟩) (by simp) _).setCell (p := ⟨w.heap.size + 1, 3, none⟩) (by simp) _⟩
 · by_cases hl : 1048576 < (b.size : Int) + s.size
   · have he : dapp (a, sa) (b, sb) 1 s = (dzero, dzero, 2) := by unfold dapp; rw [if_neg (by decide), if_pos (by simp only; omega)]
     have he' := Lib.hid he
     clear he
     go_wp2_with fail
     exact disk_end (g := w.heap.size + 1) (x := dzero) (y := dzero) (e := 2) rfl rfl rfl rfl ((((HR.out.set_ 0 _).set_ 1 _).set_ 2 _).set_ 3 _)
      ⟨by rw [he'.out], (((hbw.setCell (p := ⟨w.heap.size + 1, 0, none⟩) (by simp) _).setCell (p := ⟨w.heap.size + 1, 1, none⟩) (by simp) _).setCell (p := ⟨w.heap.size + 1, 2, none⟩) (by simp) _).setCell (p := ⟨w.heap.size + 1, 3, none⟩) (by simp) _⟩
   · have he : dapp (a, sa) (b, sb) 1 s = ((a, sa), (b ++ s, sb), 0) := by unfold dapp; rw [if_neg (by decide), if_neg (by simp only; omega)]
     have he' := Lib.hid he
     clear he
     go_wp2_with fail
     refine disk_end (g := w.heap.size + 1) (x := (a, sa)) (y := (b ++ s, sb)) (e := 0) rfl rfl rfl rfl ((((((HR.out.far (p := ⟨w.heap.size, 2, none⟩) (by simp) _)).set_ 0 _).set_ 1 _).set_ 2 _).set_ 3 _)
      ⟨by rw [he'.out], ((((hbw.setCell (p := ⟨w.heap.size, 2, none⟩) (by simp) _).setCell (p := ⟨w.heap.size + 1, 0, none⟩) (by simp) _).setCell (p := ⟨w.heap.size + 1, 1, none⟩) (by simp) _).setCell (p := ⟨w.heap.size + 1, 2, none⟩) (by simp) _).setCell (p := ⟨w.heap.size + 1, 3, none⟩) (by simp) _⟩
def dsyn (x y : Slt) (i : Int) : Slt × Slt := if i = 0 then ((x.1, (x.1.size : Int)), y) else (x, (y.1, (y.1.size : Int)))
theorem dsync_good (x y : Slt) (i : Int) (w : World) (h : dlook x y i = 0) :
 Calls Try.prog 113 #[dvl x y, .int .i64 i] w fun e w' => e = .returned (dres (dsyn x y i).1 (dsyn x y i).2 0) ∧ Below w.heap.size w w' := by
 obtain ⟨a, sa⟩ := x
 obtain ⟨b, sb⟩ := y
 unfold dvl
 simp only
 have hz := dlook_zero _ _ _ h
 simp only at hz
 obtain ⟨hi, ha, hb, ha0, ha1, hb0, hb1'⟩ := hz
 go_enter Try.func113, Try.ntmps113
 go_wp2_with fail
 refine (dlook_any (a, sa) (b, sb) i _).mono ?_
 rintro e w1 ⟨rfl, hb1⟩
 have hD := ((Blk.new w 70 #[.string a, .int .i64 sa, .string b, .int .i64 sb]).alloc (.cells #[.string ⟨#[]⟩, .int .i64 0, .string ⟨#[]⟩, .int .i64 0] 70)).below hb1 (by simp; omega)
 have hR := (Blk.new (w.alloc (.cells #[.string a, .int .i64 sa, .string b, .int .i64 sb] 70)) 70 #[.string ⟨#[]⟩, .int .i64 0, .string ⟨#[]⟩, .int .i64 0]).below hb1 (by simp)
 simp only [World.size_alloc] at hR
 have hbw : Below w.heap.size w w1 := (((Below.refl w.heap.size w).alloc (Nat.le_refl _) _).alloc (by simp) _).trans (hb1.mono (by simp; omega))
 rw [h]
 have c0 := hR.cell 0
 have f0 := hR.frozen 0
 have c1 := hR.cell 1
 have f1 := hR.frozen 1
 have c2 := hR.cell 2
 have f2 := hR.frozen 2
 have c3 := hR.cell 3
 have f3 := hR.frozen 3
 have d0 := hD.cell 0
 have g0 := hD.frozen 0
 have d1 := hD.cell 1
 have g1 := hD.frozen 1
 have d2 := hD.cell 2
 have g2 := hD.frozen 2
 have d3 := hD.cell 3
 have g3 := hD.frozen 3
 clear hb1 h
 have HR := Lib.hid hR
 have HD := Lib.hid hD
 clear hR hD
 rcases hi with rfl | rfl
 · go_wp2_with fail
   exact disk_end (g := w.heap.size + 1) (x := (a, (a.size : Int))) (y := (b, sb)) (e := 0) rfl rfl rfl rfl ((((((((((HR.out).far (p := ⟨w.heap.size, 1, none⟩) (by simp) _)).set_ 0 _)).set_ 1 _)).set_ 2 _)).set_ 3 _) ⟨rfl, ((((((((((hbw).setCell (p := ⟨w.heap.size, 1, none⟩) (by simp) _)).setCell (p := ⟨w.heap.size + 1, 0, none⟩) (by simp) _)).setCell (p := ⟨w.heap.size + 1, 1, none⟩) (by simp) _)).setCell (p := ⟨w.heap.size + 1, 2, none⟩) (by simp) _)).setCell (p := ⟨w.heap.size + 1, 3, none⟩) (by simp) _)⟩
 · go_wp2_with fail
   exact disk_end (g := w.heap.size + 1) (x := (a, sa)) (y := (b, (b.size : Int))) (e := 0) rfl rfl rfl rfl ((((((((((HR.out).far (p := ⟨w.heap.size, 3, none⟩) (by simp) _)).set_ 0 _)).set_ 1 _)).set_ 2 _)).set_ 3 _) ⟨rfl, ((((((((((hbw).setCell (p := ⟨w.heap.size, 3, none⟩) (by simp) _)).setCell (p := ⟨w.heap.size + 1, 0, none⟩) (by simp) _)).setCell (p := ⟨w.heap.size + 1, 1, none⟩) (by simp) _)).setCell (p := ⟨w.heap.size + 1, 2, none⟩) (by simp) _)).setCell (p := ⟨w.heap.size + 1, 3, none⟩) (by simp) _)⟩
structure Sh where
 d0 : Slt
 d1 : Slt
 at_ : Nat
 log : Lg
 text : ByteArray
 safe : Int
 old : Bool
def shP (s : Sh) : List Value := [.string s.d0.1, .int .i64 s.d0.2, .string s.d1.1, .int .i64 s.d1.2, .int .i64 s.at_]
def shR (s : Sh) (mp : Option Addr) : List Value := [.string s.text, .int .i64 s.safe, .pointer mp, .bool s.old]
def shc (s : Sh) (sl : Sl) (mp : Option Addr) : Array Value := lgin (shP s) s.log sl (shR s mp)
section
variable {s : Sh} {sl : Sl} {mp : Option Addr}
theorem shc_0 : (shc s sl mp)[0]? = some (.string s.d0.1) := rfl
theorem shc_1 : (shc s sl mp)[1]? = some (.int .i64 s.d0.2) := rfl
theorem shc_2 : (shc s sl mp)[2]? = some (.string s.d1.1) := rfl
theorem shc_3 : (shc s sl mp)[3]? = some (.int .i64 s.d1.2) := rfl
theorem shc_at : (shc s sl mp)[4]? = some (.int .i64 s.at_) := rfl
theorem shc_log (i : Nat) (hi : i < 38) (h8 : Lg8 s.log) : (shc s sl mp)[5 + i]? = (lgc s.log sl)[i]? := lgin_at (shP s) s.log sl (shR s mp) 5 i rfl h8 hi
theorem shc_tail (i : Nat) (h8 : Lg8 s.log) : (shc s sl mp)[43 + i]? = (shR s mp)[i]? := by
 unfold shc lgin
 rw [List.getElem?_toArray, List.getElem?_append_right (by simp [shP]; omega), List.getElem?_append_right (by rw [lgl_len h8]; simp [shP]; omega)]
 congr 1
 rw [lgl_len h8]
 simp [shP]
 omega
theorem shc_text (h8 : Lg8 s.log) : (shc s sl mp)[43]? = some (.string s.text) := shc_tail 0 h8
theorem shc_mv (h8 : Lg8 s.log) : (shc s sl mp)[45]? = some (.pointer mp) := shc_tail 2 h8
theorem shc_base (h8 : Lg8 s.log) : (shc s sl mp)[6]? = some (.int .i64 s.log.base) := (shc_log 1 (by decide) h8).trans lgc_base
theorem shc_revs (h8 : Lg8 s.log) : (shc s sl mp)[40]? = some (.slice sl.1 sl.2.1 sl.2.2) := (shc_log 35 (by decide) h8).trans (lgc_revs h8)
theorem shc_disk (x y : Slt) : ((((shc s sl mp).setIfInBounds 0 (.string x.1)).setIfInBounds 1 (.int .i64 x.2)).setIfInBounds 2 (.string y.1)).setIfInBounds 3 (.int .i64 y.2) = shc { s with d0 := x, d1 := y } sl mp := by
 unfold shc lgin
 simp only [List.setIfInBounds_toArray]
 rfl
theorem shc_size (h8 : Lg8 s.log) : (shc s sl mp).size = 47 := by
 unfold shc lgin
 rw [List.size_toArray, List.length_append, List.length_append, lgl_len h8]
 rfl
end
theorem sput_any (q : Nat) (s : Sh) (sl : Sl) (mp : Option Addr) (i : Int) (t : ByteArray) (w : World) (hk : Blk w q 134 (shc s sl mp)) (hl : dlook s.d0 s.d1 i = 0) (ht : t.size ≤ 140737488351232) :
 Calls Try.prog 82 #[.pointer (some ⟨q, 0, none⟩), .int .i64 i, .string t] w fun e w' => e = .returned (.tuple #[]) ∧ Blk w' q 134 (shc { s with d0 := (dapp s.d0 s.d1 i t).1, d1 := (dapp s.d0 s.d1 i t).2.1 } sl mp) ∧ Only w w' (fun k => k = q) := by
 have hc := dappend_good s.d0 s.d1 i t ht w hl
 obtain ⟨X, hX⟩ : ∃ X, (dapp s.d0 s.d1 i t).1 = X := ⟨_, rfl⟩
 obtain ⟨Y, hY⟩ : ∃ Y, (dapp s.d0 s.d1 i t).2.1 = Y := ⟨_, rfl⟩
 rw [hX, hY] at hc ⊢
 clear hX hY
 obtain ⟨x1, x2⟩ := X
 obtain ⟨y1, y2⟩ := Y
 unfold dres dvl at hc
 simp only at hc
 have Hc := Lib.hid hc
 clear hc
 have c0 := hk.cell 0
 have c1 := hk.cell 1
 have c2 := hk.cell 2
 have c3 := hk.cell 3
 rw [shc_0] at c0
 rw [shc_1] at c1
 rw [shc_2] at c2
 rw [shc_3] at c3
 have lk := hk.lt
 go_enter Try.func82, Try.ntmps82
 go_wp2_with fail
 refine Hc.out.mono ?_
 rintro e w1 ⟨rfl, hb⟩
 have k1 := hk.below hb lk
 have ho := Only.of_below (S := fun k => k = q) hb
 clear c0 c1 c2 c3 lk hb Hc
 have c0 := k1.cell 0
 have c1 := k1.cell 1
 have c2 := k1.cell 2
 have c3 := k1.cell 3
 rw [shc_0] at c0
 rw [shc_1] at c1
 rw [shc_2] at c2
 rw [shc_3] at c3
 have f0 := k1.frozen 0
 have f1 := k1.frozen 1
 have f2 := k1.frozen 2
 have f3 := k1.frozen 3
 have lk := k1.lt
 go_wp2_with fail
 go_end0
 have k2 := (((k1.set_ 0 (.string x1)).set_ 1 (.int .i64 x2)).set_ 2 (.string y1)).set_ 3 (.int .i64 y2)
 rw [show ((((shc s sl mp).setIfInBounds 0 (.string x1)).setIfInBounds 1 (.int .i64 x2)).setIfInBounds 2 (.string y1)).setIfInBounds 3 (.int .i64 y2) = shc { s with d0 := (x1, x2), d1 := (y1, y2) } sl mp from shc_disk (x1, x2) (y1, y2)] at k2
 exact ⟨rfl, k2, ho.trans ((((Only.setSelf _ q 0 _).trans (Only.setSelf _ q 1 _)).trans (Only.setSelf _ q 2 _)).trans (Only.setSelf _ q 3 _))⟩
theorem ssync_any (q : Nat) (s : Sh) (sl : Sl) (mp : Option Addr) (i : Int) (w : World) (hk : Blk w q 134 (shc s sl mp)) (hl : dlook s.d0 s.d1 i = 0) :
 Calls Try.prog 84 #[.pointer (some ⟨q, 0, none⟩), .int .i64 i] w fun e w' => e = .returned (.tuple #[]) ∧ Blk w' q 134 (shc { s with d0 := (dsyn s.d0 s.d1 i).1, d1 := (dsyn s.d0 s.d1 i).2 } sl mp) ∧ Only w w' (fun k => k = q) := by
 have hc := dsync_good s.d0 s.d1 i w hl
 obtain ⟨X, hX⟩ : ∃ X, (dsyn s.d0 s.d1 i).1 = X := ⟨_, rfl⟩
 obtain ⟨Y, hY⟩ : ∃ Y, (dsyn s.d0 s.d1 i).2 = Y := ⟨_, rfl⟩
 rw [hX, hY] at hc ⊢
 clear hX hY
 obtain ⟨x1, x2⟩ := X
 obtain ⟨y1, y2⟩ := Y
 unfold dres dvl at hc
 simp only at hc
 have Hc := Lib.hid hc
 clear hc
 have c0 := hk.cell 0
 have c1 := hk.cell 1
 have c2 := hk.cell 2
 have c3 := hk.cell 3
 rw [shc_0] at c0
 rw [shc_1] at c1
 rw [shc_2] at c2
 rw [shc_3] at c3
 have lk := hk.lt
 go_enter Try.func84, Try.ntmps84
 go_wp2_with fail
 refine Hc.out.mono ?_
 rintro e w1 ⟨rfl, hb⟩
 have k1 := hk.below hb lk
 have ho := Only.of_below (S := fun k => k = q) hb
 clear c0 c1 c2 c3 lk hb Hc
 have c0 := k1.cell 0
 have c1 := k1.cell 1
 have c2 := k1.cell 2
 have c3 := k1.cell 3
 rw [shc_0] at c0
 rw [shc_1] at c1
 rw [shc_2] at c2
 rw [shc_3] at c3
 have f0 := k1.frozen 0
 have f1 := k1.frozen 1
 have f2 := k1.frozen 2
 have f3 := k1.frozen 3
 have lk := k1.lt
 go_wp2_with fail
 go_end0
 have k2 := (((k1.set_ 0 (.string x1)).set_ 1 (.int .i64 x2)).set_ 2 (.string y1)).set_ 3 (.int .i64 y2)
 rw [show ((((shc s sl mp).setIfInBounds 0 (.string x1)).setIfInBounds 1 (.int .i64 x2)).setIfInBounds 2 (.string y1)).setIfInBounds 3 (.int .i64 y2) = shc { s with d0 := (x1, x2), d1 := (y1, y2) } sl mp from shc_disk (x1, x2) (y1, y2)] at k2
 exact ⟨rfl, k2, ho.trans ((((Only.setSelf _ q 0 _).trans (Only.setSelf _ q 1 _)).trans (Only.setSelf _ q 2 _)).trans (Only.setSelf _ q 3 _))⟩
theorem shead_any (q : Nat) (s : Sh) (sl : Sl) (mp : Option Addr) (w : World) (hk : Blk w q 134 (shc s sl mp)) (h8 : Lg8 s.log) (hsl : sl.2.1 = s.log.revs.length) (hb0 : 0 ≤ s.log.base) (hb1 : s.log.base ≤ 2147483647) (hr : s.log.revs.length ≤ 1000) :
 Calls Try.prog 40 #[.pointer (some ⟨q, 0, none⟩)] w fun e w' => e = .returned (.int .i64 (s.log.base + s.log.revs.length)) ∧ Below w.heap.size w w' := by
 have c6 := hk.cell 6
 rw [shc_base h8] at c6
 have c40 := hk.cell 40
 rw [shc_revs h8] at c40
 have lk := hk.lt
 obtain ⟨A, n, c⟩ := sl
 simp only at hsl c40
 rw [← hsl] at hr ⊢
 obtain ⟨Ba, hBa⟩ : ∃ Ba, s.log.base = Ba := ⟨_, rfl⟩
 rw [hBa] at c6 hb0 hb1 ⊢
 have hw : IntKind.i64.wrap (Ba + (n : Int)) = Ba + (n : Int) := IntWalk.i64_in _ (by omega)
 clear hBa hsl hk
 go_enter Try.func40, Try.ntmps40
 go_upto_region 1 with (fail)
 go_quiet (fail)
 go_wp2_with fail
 go_ret
 exact ⟨rfl, below_drewN_ (Below.refl _ _) _⟩
theorem there_any (q : Nat) (s : Sh) (sl : Sl) (mp : Option Addr) (r : Int) (w : World) (hk : Blk w q 134 (shc s sl mp)) (h8 : Lg8 s.log) (hsl : sl.2.1 = s.log.revs.length) (hb0 : 0 ≤ s.log.base) (hb1 : s.log.base ≤ 2147483647) (hr : s.log.revs.length ≤ 1000) :
 Calls Try.prog 88 #[.pointer (some ⟨q, 0, none⟩), .int .i64 r] w fun e w' => e = .returned (.int .i64 (if r < s.log.base then 9 else if s.log.base + s.log.revs.length < r then 8 else 0)) ∧ Below w.heap.size w w' := by
 have hh := fun w (hk : Blk w q 134 (shc s sl mp)) => shead_any q s sl mp w hk h8 hsl hb0 hb1 hr
 have Hh := Lib.hid (hh w hk)
 have c6 := hk.cell 6
 rw [shc_base h8] at c6
 have lk := hk.lt
 obtain ⟨Hd, hHd⟩ : ∃ Hd, s.log.base + s.log.revs.length = Hd := ⟨_, rfl⟩
 obtain ⟨Ba, hBa⟩ : ∃ Ba, s.log.base = Ba := ⟨_, rfl⟩
 rw [hHd] at Hh
 rw [hBa] at c6
 rw [hHd, hBa]
 clear hh hHd hBa hsl hb0 hb1 hr h8 hk
 by_cases h1 : r < Ba
 · rw [if_pos h1]
   go_enter Try.func88, Try.ntmps88
   go_wp2_with fail
   go_ret
   exact ⟨rfl, Below.refl _ _⟩
 · rw [if_neg h1]
   by_cases h2 : Hd < r
   · rw [if_pos h2]
     go_enter Try.func88, Try.ntmps88
     go_wp2_with fail
     refine Hh.out.mono ?_
     rintro e w1 ⟨rfl, hb⟩
     go_wp2_with fail
     go_ret
     exact ⟨rfl, hb⟩
   · rw [if_neg h2]
     go_enter Try.func88, Try.ntmps88
     go_wp2_with fail
     refine Hh.out.mono ?_
     rintro e w1 ⟨rfl, hb⟩
     go_wp2_with fail
     go_ret
     exact ⟨rfl, hb⟩
end Go.Proofs.Ytokngfinnieccaa
