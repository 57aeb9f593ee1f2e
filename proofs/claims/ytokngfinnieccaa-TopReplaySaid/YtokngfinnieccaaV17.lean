/- Contract of hot.Read. -/
import Derived.Test.YtokngfinnieccaaV15
import Derived.IntWalk
namespace Go.Proofs.Ytokngfinnieccaa
open Go.ChangeShapes Go.WideShapes Go.RowKit
set_option linter.unusedVariables false
set_option linter.unusedSimpArgs false
set_option maxRecDepth 100000
set_option maxHeartbeats 4000000
theorem wpList_load_blkW {ops : Array Oper} {rest : List Oper} {o : Oper} {a : Act} {w : World} {Q : Exit → Act → World → Prop} (hgd : Region.wanted o (yielded ops a.tmps) = true) (ty : TypeId) (x : Operand) (ho : o.op = .load ty x)
 (g : Nat) (hx : a.eval x = .pointer (some ⟨g, 0, none⟩)) (cs : Array Value) (hl : (loadVar ty ⟨g, 0, none⟩).run Try.prog w = .ok (.agg cs) w)
 (h : wpList Try.prog ops Q rest (a.put o.dst (.agg cs)) w) : wpList Try.prog ops Q (o :: rest) a w :=
 BigFrame.wpList_want hgd fun _ hK => by
  unfold Oper.wp execOp
  simp only [ho, hx, Instr.loadAt, Instr.sureAddr, Sem.run_bind, Sem.run_pure, Result.andThen_ok, hl]
  exact hK _ _ h
theorem RdF.tail {w : World} {B b o N c : Nat} {f : Fm} {l : List Fm} (h : RdF w B (some ⟨b, o, none⟩) N c (f :: l)) : b < B ∧ ∀ k, (hk : k < l.length) → w.cell? ⟨b, o + 2 + k * 2, none⟩ = some (.int .i64 l[k].1) ∧ w.cell? ⟨b, o + 2 + k * 2 + 1, none⟩ = some (.string l[k].2) := by
 have hN := h.1
 rw [List.length_cons] at hN
 refine ⟨?_, fun k hk => ?_⟩
 · obtain ⟨b', o', e, hb, _⟩ := h.at_ 0 (by omega)
   injection e with e; injection e with e1; subst e1; exact hb
 · obtain ⟨b', o', e, hb, h1, h2⟩ := h.at_ (k + 1) (by omega)
   injection e with e; injection e with e1 e2; subst e1; subst e2
   simp only [List.getElem_cons_succ] at h1 h2
   rw [show o + (k + 1) * 2 = o + 2 + k * 2 by omega] at h1 h2
   exact ⟨h1, h2⟩
theorem lgin_none (l : Lg) (s : Sl) : lgin [] l s [] = lgc l s := by simp [lgin, lgc]
theorem fits_wp {n : Nat} (h : n ≤ 4000) : IntKind.i64.wrap ((n : Int) + 7) = (n : Int) + 7 := IntWalk.i64_in _ (by omega)
theorem hread_none (s : ByteArray) (rest : List UInt8) (hr : (gf rest).2.2.2 ≠ 0) (hsz : s.size ≤ 140737488351232) (w : World) (hs : s.data.toList = rest) :
 Calls Try.prog 91 #[.string s] w fun e w' => ∃ (sl : Sl) (ss : List Sl), e = .returned (.tuple #[.agg (lgc lg0 sl), .int .i64 7]) ∧ OwnV w' w.heap.size (.slice sl.1 sl.2.1 sl.2.2) ss [] ∧ Below w.heap.size w w' := by
 have hsc := fun w => scan_any s [] rest (by simp) hs hr (by simp) (by omega) 0 0 rfl rfl w
 have Hsc := Lib.hid hsc
 clear hsc hs hr
 have hb0 : Below w.heap.size w w := Below.refl _ _
 have hb1 := hb0.alloc hb0.size (.cells #[.int .i64 0, .int .i64 0, .string ⟨#[]⟩, .int .i64 0, .int .i64 0, .int .i64 0, .int .i64 0, .int .i64 0, .int .i64 0, .int .i64 0, .int .i64 0, .int .i64 0, .int .i64 0, .int .i64 0, .int .i64 0, .int .i64 0, .int .i64 0, .int .i64 0, .int .i64 0, .int .i64 0, .int .i64 0, .int .i64 0, .int .i64 0, .int .i64 0, .int .i64 0, .int .i64 0, .int .i64 0, .int .i64 0, .int .i64 0, .int .i64 0, .int .i64 0, .int .i64 0, .int .i64 0, .int .i64 0, .int .i64 0, .slice none 0 0, .bool false, .int .i64 0] 131)
 have kr := Blk.new w 131 #[.int .i64 0, .int .i64 0, .string ⟨#[]⟩, .int .i64 0, .int .i64 0, .int .i64 0, .int .i64 0, .int .i64 0, .int .i64 0, .int .i64 0, .int .i64 0, .int .i64 0, .int .i64 0, .int .i64 0, .int .i64 0, .int .i64 0, .int .i64 0, .int .i64 0, .int .i64 0, .int .i64 0, .int .i64 0, .int .i64 0, .int .i64 0, .int .i64 0, .int .i64 0, .int .i64 0, .int .i64 0, .int .i64 0, .int .i64 0, .int .i64 0, .int .i64 0, .int .i64 0, .int .i64 0, .int .i64 0, .int .i64 0, .slice none 0 0, .bool false, .int .i64 0]
 clear hb0
 have hb := hb1
 clear hb1
 go_enter Try.func91, Try.ntmps91
 go_upto_region 1 with (fail)
 generalize (w.alloc (.cells #[.int .i64 0, .int .i64 0, .string ⟨#[]⟩, .int .i64 0, .int .i64 0, .int .i64 0, .int .i64 0, .int .i64 0, .int .i64 0, .int .i64 0, .int .i64 0, .int .i64 0, .int .i64 0, .int .i64 0, .int .i64 0, .int .i64 0, .int .i64 0, .int .i64 0, .int .i64 0, .int .i64 0, .int .i64 0, .int .i64 0, .int .i64 0, .int .i64 0, .int .i64 0, .int .i64 0, .int .i64 0, .int .i64 0, .int .i64 0, .int .i64 0, .int .i64 0, .int .i64 0, .int .i64 0, .int .i64 0, .int .i64 0, .slice none 0 0, .bool false, .int .i64 0] 131)) = W0 at *
 obtain ⟨g, hbase⟩ : ∃ g, w.heap.size = g := ⟨_, rfl⟩
 rw [hbase] at hb kr ⊢
 have hsz : g ≤ W0.heap.size := by have := hb.size; omega
 have lr := kr.lt
 replace kr : Blk W0 g 131 (lgc lg0 (none, 0, 0)) := kr
 go_wp2_with fail
 refine (Hsc.out W0).mono ?_
 rintro e v1 ⟨A, c, rfl, hF, hv1⟩
 replace kr := kr.below hv1 kr.lt
 replace lr := kr.lt
 replace hb := hb.trans (hv1.mono hsz)
 replace hsz : g ≤ v1.heap.size := Nat.le_trans hsz hv1.size
 clear hv1
 go_wp2_with (first | (refine wpList_store_blk rfl _ (.tmp 2) (.tmp 21) rfl g (lgc lg0 (none, 0, 0)) rfl rfl _ _ kr (by first | exact log_info | (rw [lgc_size lg0_8]; exact log_info)) (by first | rfl | exact (lgc_size lg0_8).symm) (by first | exact lgc_ones | simp [Value.oneCell']) ?_))
 have kz := kr.row (lgc lg0 (none, 0, 0))
 have hz := below_setRow hb g (lgc lg0 (none, 0, 0)) (by omega)
 refine row_end2 rfl rfl rfl rfl (log_row kz lg0_8) ?_
 exact ⟨(none, 0, 0), [], rfl, OwnV.nil _ _, hbase ▸ hz⟩
theorem hread_kind (s : ByteArray) (rest : List UInt8) (hr : (gf rest).2.2.2 ≠ 0) (hsz : s.size ≤ 140737488351232) (w : World) (K : Int) (bd : ByteArray) (fs : List Fm) (hok : ∀ p ∈ (K, bd) :: fs, okF p) (hs : s.data.toList = flat ((K, bd) :: fs) ++ rest) (hn : ((K, bd) :: fs).length ≤ 5864062014636) (he : K ≠ 1) :
 Calls Try.prog 91 #[.string s] w fun e w' => ∃ (sl : Sl) (ss : List Sl), e = .returned (.tuple #[.agg (lgc lg0 sl), .int .i64 3]) ∧ OwnV w' w.heap.size (.slice sl.1 sl.2.1 sl.2.2) ss [] ∧ Below w.heap.size w w' := by
 have hK : (K != 1) = true := by simpa using he
 obtain ⟨N, hN⟩ : ∃ N, ((K, bd) :: fs).length = N := ⟨_, rfl⟩
 obtain ⟨G, hG⟩ : ∃ G, (flat ((K, bd) :: fs)).length = G := ⟨_, rfl⟩
 have hsc := fun w => scan_any s ((K, bd) :: fs) rest hok hs hr hn (by omega) N G hN hG w
 have Hsc := Lib.hid hsc
 have hN1 : N = fs.length + 1 := by rw [← hN, List.length_cons]
 have hfl : fs.length ≤ 5864062014635 := by rw [List.length_cons] at hn; omega
 have hbd : bd.size ≤ 4000 := (hok (K, bd) (by simp)).2.2
 have Hok := Lib.hid (show ∀ f ∈ fs, okF f from fun f hf => hok f (List.mem_cons_of_mem _ hf))
 obtain ⟨n, hnl⟩ : ∃ n, fs.length = n := ⟨_, rfl⟩
 rw [hnl] at hN1 hfl
 have Hnl := Lib.hid hnl
 have hN0 : ((N : Int) == 0) = false := by simp; omega
 have hN2 : (0 : Int) < (N : Int) := by omega
 obtain ⟨L0, hL0⟩ : ∃ L0, hdL bd.data.toList = L0 := ⟨_, rfl⟩
 have h8 : Lg8 L0 := by rw [← hL0]; exact hdL_8 _
 have hhd := fun w => head_any bd w (by omega)
 obtain ⟨ok, hok2⟩ : ∃ ok, hdOk bd.data.toList = ok := ⟨_, rfl⟩
 rw [hok2] at hhd
 rw [hL0] at hhd
 have Hhd := Lib.hid hhd
 have HL0 := Lib.hid hL0
 have Hok2 := Lib.hid hok2
 clear hsc hok hs hr hn hN hG hnl hhd hL0 hok2
 have hb0 : Below w.heap.size w w := Below.refl _ _
 have hb1 := hb0.alloc hb0.size (.cells #[.int .i64 0, .int .i64 0, .string ⟨#[]⟩, .int .i64 0, .int .i64 0, .int .i64 0, .int .i64 0, .int .i64 0, .int .i64 0, .int .i64 0, .int .i64 0, .int .i64 0, .int .i64 0, .int .i64 0, .int .i64 0, .int .i64 0, .int .i64 0, .int .i64 0, .int .i64 0, .int .i64 0, .int .i64 0, .int .i64 0, .int .i64 0, .int .i64 0, .int .i64 0, .int .i64 0, .int .i64 0, .int .i64 0, .int .i64 0, .int .i64 0, .int .i64 0, .int .i64 0, .int .i64 0, .int .i64 0, .int .i64 0, .slice none 0 0, .bool false, .int .i64 0] 131)
 have kr := Blk.new w 131 #[.int .i64 0, .int .i64 0, .string ⟨#[]⟩, .int .i64 0, .int .i64 0, .int .i64 0, .int .i64 0, .int .i64 0, .int .i64 0, .int .i64 0, .int .i64 0, .int .i64 0, .int .i64 0, .int .i64 0, .int .i64 0, .int .i64 0, .int .i64 0, .int .i64 0, .int .i64 0, .int .i64 0, .int .i64 0, .int .i64 0, .int .i64 0, .int .i64 0, .int .i64 0, .int .i64 0, .int .i64 0, .int .i64 0, .int .i64 0, .int .i64 0, .int .i64 0, .int .i64 0, .int .i64 0, .int .i64 0, .int .i64 0, .slice none 0 0, .bool false, .int .i64 0]
 clear hb0
 have hb := hb1
 clear hb1
 go_enter Try.func91, Try.ntmps91
 go_upto_region 1 with (fail)
 generalize (w.alloc (.cells #[.int .i64 0, .int .i64 0, .string ⟨#[]⟩, .int .i64 0, .int .i64 0, .int .i64 0, .int .i64 0, .int .i64 0, .int .i64 0, .int .i64 0, .int .i64 0, .int .i64 0, .int .i64 0, .int .i64 0, .int .i64 0, .int .i64 0, .int .i64 0, .int .i64 0, .int .i64 0, .int .i64 0, .int .i64 0, .int .i64 0, .int .i64 0, .int .i64 0, .int .i64 0, .int .i64 0, .int .i64 0, .int .i64 0, .int .i64 0, .int .i64 0, .int .i64 0, .int .i64 0, .int .i64 0, .int .i64 0, .int .i64 0, .slice none 0 0, .bool false, .int .i64 0] 131)) = W0 at *
 obtain ⟨g, hbase⟩ : ∃ g, w.heap.size = g := ⟨_, rfl⟩
 rw [hbase] at hb kr ⊢
 have hsz : g ≤ W0.heap.size := by have := hb.size; omega
 have lr := kr.lt
 replace kr : Blk W0 g 131 (lgc lg0 (none, 0, 0)) := kr
 go_wp2_with fail
 refine (Hsc.out W0).mono ?_
 rintro e v1 ⟨A, c, rfl, hF, hv1⟩
 replace kr := kr.below hv1 kr.lt
 replace lr := kr.lt
 replace hb := hb.trans (hv1.mono hsz)
 replace hsz : g ≤ v1.heap.size := Nat.le_trans hsz hv1.size
 clear hv1
 obtain ⟨b, o, rfl, hbl, d0, d1⟩ := hF.at_ 0 (by omega)
 simp only [Nat.zero_mul, Nat.add_zero, List.getElem_cons_zero] at d0 d1
 have hNc : (N : Int) ≤ (c : Int) := by have := hF.2.1; omega
 have hc9 := hF.2.2.1
 have HF := Lib.hid hF
 clear hF
 go_upto_region 4 with (fail)
 go_wp2_with fail
 refine (Hhd.out v1).mono ?_
 rintro e vh ⟨rfl, hvh⟩
 replace d0 := (hvh.cell hbl).trans d0
 replace d1 := (hvh.cell hbl).trans d1
 replace hbl : b < vh.heap.size := Nat.lt_of_lt_of_le hbl hvh.size
 replace HF := Lib.hid (HF.out.step hvh)
 replace kr := kr.below hvh kr.lt
 replace lr := kr.lt
 replace hb := hb.trans (hvh.mono hsz)
 replace hsz : g ≤ vh.heap.size := Nat.le_trans hsz hvh.size
 clear hvh
 go_upto_region 5 with (first | (refine wpList_store_blk rfl _ (.tmp 6) (.tmp 28) rfl vh.heap.size (lgc L0 (none, 0, 0)) rfl rfl _ _ (Blk.new vh _ _) (by rw [lgc_size h8]; exact log_info) (by rw [lgc_size h8]; rfl) lgc_ones ?_))
 have kl := Blk.new vh 131 #[.int .i64 0, .int .i64 0, .string ⟨#[]⟩, .int .i64 0, .int .i64 0, .int .i64 0, .int .i64 0, .int .i64 0, .int .i64 0, .int .i64 0, .int .i64 0, .int .i64 0, .int .i64 0, .int .i64 0, .int .i64 0, .int .i64 0, .int .i64 0, .int .i64 0, .int .i64 0, .int .i64 0, .int .i64 0, .int .i64 0, .int .i64 0, .int .i64 0, .int .i64 0, .int .i64 0, .int .i64 0, .int .i64 0, .int .i64 0, .int .i64 0, .int .i64 0, .int .i64 0, .int .i64 0, .int .i64 0, .int .i64 0, .slice none 0 0, .bool false, .int .i64 0]
 have krv := kr
 have hbv := hb
 replace kr := kr.alloc (.cells #[.int .i64 0, .int .i64 0, .string ⟨#[]⟩, .int .i64 0, .int .i64 0, .int .i64 0, .int .i64 0, .int .i64 0, .int .i64 0, .int .i64 0, .int .i64 0, .int .i64 0, .int .i64 0, .int .i64 0, .int .i64 0, .int .i64 0, .int .i64 0, .int .i64 0, .int .i64 0, .int .i64 0, .int .i64 0, .int .i64 0, .int .i64 0, .int .i64 0, .int .i64 0, .int .i64 0, .int .i64 0, .int .i64 0, .int .i64 0, .int .i64 0, .int .i64 0, .int .i64 0, .int .i64 0, .int .i64 0, .int .i64 0, .slice none 0 0, .bool false, .int .i64 0] 131)
 have hby := (Below.refl vh.heap.size vh).alloc (Nat.le_refl _) (.cells #[.int .i64 0, .int .i64 0, .string ⟨#[]⟩, .int .i64 0, .int .i64 0, .int .i64 0, .int .i64 0, .int .i64 0, .int .i64 0, .int .i64 0, .int .i64 0, .int .i64 0, .int .i64 0, .int .i64 0, .int .i64 0, .int .i64 0, .int .i64 0, .int .i64 0, .int .i64 0, .int .i64 0, .int .i64 0, .int .i64 0, .int .i64 0, .int .i64 0, .int .i64 0, .int .i64 0, .int .i64 0, .int .i64 0, .int .i64 0, .int .i64 0, .int .i64 0, .int .i64 0, .int .i64 0, .int .i64 0, .int .i64 0, .slice none 0 0, .bool false, .int .i64 0] 131)
 replace hb := hb.alloc hsz (.cells #[.int .i64 0, .int .i64 0, .string ⟨#[]⟩, .int .i64 0, .int .i64 0, .int .i64 0, .int .i64 0, .int .i64 0, .int .i64 0, .int .i64 0, .int .i64 0, .int .i64 0, .int .i64 0, .int .i64 0, .int .i64 0, .int .i64 0, .int .i64 0, .int .i64 0, .int .i64 0, .int .i64 0, .int .i64 0, .int .i64 0, .int .i64 0, .int .i64 0, .int .i64 0, .int .i64 0, .int .i64 0, .int .i64 0, .int .i64 0, .int .i64 0, .int .i64 0, .int .i64 0, .int .i64 0, .int .i64 0, .int .i64 0, .slice none 0 0, .bool false, .int .i64 0] 131)
 have hs2 : (vh.alloc (.cells #[.int .i64 0, .int .i64 0, .string ⟨#[]⟩, .int .i64 0, .int .i64 0, .int .i64 0, .int .i64 0, .int .i64 0, .int .i64 0, .int .i64 0, .int .i64 0, .int .i64 0, .int .i64 0, .int .i64 0, .int .i64 0, .int .i64 0, .int .i64 0, .int .i64 0, .int .i64 0, .int .i64 0, .int .i64 0, .int .i64 0, .int .i64 0, .int .i64 0, .int .i64 0, .int .i64 0, .int .i64 0, .int .i64 0, .int .i64 0, .int .i64 0, .int .i64 0, .int .i64 0, .int .i64 0, .int .i64 0, .int .i64 0, .slice none 0 0, .bool false, .int .i64 0] 131)).heap.size = vh.heap.size + 1 := World.size_alloc _ _
 obtain ⟨U, hU⟩ : ∃ U, vh.alloc (.cells #[.int .i64 0, .int .i64 0, .string ⟨#[]⟩, .int .i64 0, .int .i64 0, .int .i64 0, .int .i64 0, .int .i64 0, .int .i64 0, .int .i64 0, .int .i64 0, .int .i64 0, .int .i64 0, .int .i64 0, .int .i64 0, .int .i64 0, .int .i64 0, .int .i64 0, .int .i64 0, .int .i64 0, .int .i64 0, .int .i64 0, .int .i64 0, .int .i64 0, .int .i64 0, .int .i64 0, .int .i64 0, .int .i64 0, .int .i64 0, .int .i64 0, .int .i64 0, .int .i64 0, .int .i64 0, .int .i64 0, .int .i64 0, .slice none 0 0, .bool false, .int .i64 0] 131) = U := ⟨_, rfl⟩
 rw [hU] at kl kr hby hb hs2 ⊢
 obtain ⟨y, hy⟩ : ∃ y, vh.heap.size = y := ⟨_, rfl⟩
 rw [hy] at kl hby hs2 hbl HF lr hsz ⊢
 replace kl := kl.row (lgc L0 (none, 0, 0))
 replace kr := kr.farRow (g' := y) (by omega) (lgc L0 (none, 0, 0))
 replace hby := below_setRow hby y (lgc L0 (none, 0, 0)) (Nat.le_refl _)
 replace hb := below_setRow hb y (lgc L0 (none, 0, 0)) (by omega)
 have hs3 : (U.setRow y (lgc L0 (none, 0, 0))).heap.size = U.heap.size := setRow_size _ _ _
 obtain ⟨X, hX⟩ : ∃ X, U.setRow y (lgc L0 (none, 0, 0)) = X := ⟨_, rfl⟩
 rw [hX] at kl kr hby hb hs3 ⊢
 clear hX hU
 replace d0 := (hby.cell hbl).trans d0
 replace d1 := (hby.cell hbl).trans d1
 have lr := kr.lt
 have ll := kl.lt
 have hbX : b < X.heap.size := by omega
 go_wp2_with (first | (refine wpList_store_blk rfl _ (.tmp 2) (.tmp 39) rfl g (lgc lg0 (none, 0, 0)) rfl rfl _ _ kr (by first | exact log_info | (rw [lgc_size lg0_8]; exact log_info)) (by first | rfl | exact (lgc_size lg0_8).symm) (by first | exact lgc_ones | simp [Value.oneCell']) ?_))
 have kz := kr.row (lgc lg0 (none, 0, 0))
 have hz := below_setRow hb g (lgc lg0 (none, 0, 0)) (by omega)
 refine row_end2 rfl rfl rfl rfl (log_row kz lg0_8) ?_
 exact ⟨(none, 0, 0), [], rfl, OwnV.nil _ _, hbase ▸ hz⟩
theorem hread_head (s : ByteArray) (rest : List UInt8) (hr : (gf rest).2.2.2 ≠ 0) (hsz : s.size ≤ 140737488351232) (w : World) (K : Int) (bd : ByteArray) (fs : List Fm) (hok : ∀ p ∈ (K, bd) :: fs, okF p) (hs : s.data.toList = flat ((K, bd) :: fs) ++ rest) (hn : ((K, bd) :: fs).length ≤ 5864062014636) (hK : K = 1) (he : hdOk bd.data.toList = false) :
 Calls Try.prog 91 #[.string s] w fun e w' => ∃ (sl : Sl) (ss : List Sl), e = .returned (.tuple #[.agg (lgc lg0 sl), .int .i64 3]) ∧ OwnV w' w.heap.size (.slice sl.1 sl.2.1 sl.2.2) ss [] ∧ Below w.heap.size w w' := by
 subst hK
 obtain ⟨N, hN⟩ : ∃ N, ((1, bd) :: fs).length = N := ⟨_, rfl⟩
 obtain ⟨G, hG⟩ : ∃ G, (flat ((1, bd) :: fs)).length = G := ⟨_, rfl⟩
 have hsc := fun w => scan_any s ((1, bd) :: fs) rest hok hs hr hn (by omega) N G hN hG w
 have Hsc := Lib.hid hsc
 have hN1 : N = fs.length + 1 := by rw [← hN, List.length_cons]
 have hfl : fs.length ≤ 5864062014635 := by rw [List.length_cons] at hn; omega
 have hbd : bd.size ≤ 4000 := (hok (1, bd) (by simp)).2.2
 have Hok := Lib.hid (show ∀ f ∈ fs, okF f from fun f hf => hok f (List.mem_cons_of_mem _ hf))
 obtain ⟨n, hnl⟩ : ∃ n, fs.length = n := ⟨_, rfl⟩
 rw [hnl] at hN1 hfl
 have Hnl := Lib.hid hnl
 have hN0 : ((N : Int) == 0) = false := by simp; omega
 have hN2 : (0 : Int) < (N : Int) := by omega
 obtain ⟨L0, hL0⟩ : ∃ L0, hdL bd.data.toList = L0 := ⟨_, rfl⟩
 have h8 : Lg8 L0 := by rw [← hL0]; exact hdL_8 _
 have hhd := fun w => head_any bd w (by omega)
 obtain ⟨ok, hok2⟩ : ∃ ok, hdOk bd.data.toList = ok := ⟨_, rfl⟩
 rw [hok2] at hhd he
 rw [hL0] at hhd
 have Hhd := Lib.hid hhd
 have HL0 := Lib.hid hL0
 have Hok2 := Lib.hid hok2
 clear hsc hok hs hr hn hN hG hnl hhd hL0 hok2
 have hb0 : Below w.heap.size w w := Below.refl _ _
 have hb1 := hb0.alloc hb0.size (.cells #[.int .i64 0, .int .i64 0, .string ⟨#[]⟩, .int .i64 0, .int .i64 0, .int .i64 0, .int .i64 0, .int .i64 0, .int .i64 0, .int .i64 0, .int .i64 0, .int .i64 0, .int .i64 0, .int .i64 0, .int .i64 0, .int .i64 0, .int .i64 0, .int .i64 0, .int .i64 0, .int .i64 0, .int .i64 0, .int .i64 0, .int .i64 0, .int .i64 0, .int .i64 0, .int .i64 0, .int .i64 0, .int .i64 0, .int .i64 0, .int .i64 0, .int .i64 0, .int .i64 0, .int .i64 0, .int .i64 0, .int .i64 0, .slice none 0 0, .bool false, .int .i64 0] 131)
 have kr := Blk.new w 131 #[.int .i64 0, .int .i64 0, .string ⟨#[]⟩, .int .i64 0, .int .i64 0, .int .i64 0, .int .i64 0, .int .i64 0, .int .i64 0, .int .i64 0, .int .i64 0, .int .i64 0, .int .i64 0, .int .i64 0, .int .i64 0, .int .i64 0, .int .i64 0, .int .i64 0, .int .i64 0, .int .i64 0, .int .i64 0, .int .i64 0, .int .i64 0, .int .i64 0, .int .i64 0, .int .i64 0, .int .i64 0, .int .i64 0, .int .i64 0, .int .i64 0, .int .i64 0, .int .i64 0, .int .i64 0, .int .i64 0, .int .i64 0, .slice none 0 0, .bool false, .int .i64 0]
 clear hb0
 have hb := hb1
 clear hb1
 go_enter Try.func91, Try.ntmps91
 go_upto_region 1 with (fail)
 generalize (w.alloc (.cells #[.int .i64 0, .int .i64 0, .string ⟨#[]⟩, .int .i64 0, .int .i64 0, .int .i64 0, .int .i64 0, .int .i64 0, .int .i64 0, .int .i64 0, .int .i64 0, .int .i64 0, .int .i64 0, .int .i64 0, .int .i64 0, .int .i64 0, .int .i64 0, .int .i64 0, .int .i64 0, .int .i64 0, .int .i64 0, .int .i64 0, .int .i64 0, .int .i64 0, .int .i64 0, .int .i64 0, .int .i64 0, .int .i64 0, .int .i64 0, .int .i64 0, .int .i64 0, .int .i64 0, .int .i64 0, .int .i64 0, .int .i64 0, .slice none 0 0, .bool false, .int .i64 0] 131)) = W0 at *
 obtain ⟨g, hbase⟩ : ∃ g, w.heap.size = g := ⟨_, rfl⟩
 rw [hbase] at hb kr ⊢
 have hsz : g ≤ W0.heap.size := by have := hb.size; omega
 have lr := kr.lt
 replace kr : Blk W0 g 131 (lgc lg0 (none, 0, 0)) := kr
 go_wp2_with fail
 refine (Hsc.out W0).mono ?_
 rintro e v1 ⟨A, c, rfl, hF, hv1⟩
 replace kr := kr.below hv1 kr.lt
 replace lr := kr.lt
 replace hb := hb.trans (hv1.mono hsz)
 replace hsz : g ≤ v1.heap.size := Nat.le_trans hsz hv1.size
 clear hv1
 obtain ⟨b, o, rfl, hbl, d0, d1⟩ := hF.at_ 0 (by omega)
 simp only [Nat.zero_mul, Nat.add_zero, List.getElem_cons_zero] at d0 d1
 have hNc : (N : Int) ≤ (c : Int) := by have := hF.2.1; omega
 have hc9 := hF.2.2.1
 have HF := Lib.hid hF
 clear hF
 go_upto_region 4 with (fail)
 go_wp2_with fail
 refine (Hhd.out v1).mono ?_
 rintro e vh ⟨rfl, hvh⟩
 replace d0 := (hvh.cell hbl).trans d0
 replace d1 := (hvh.cell hbl).trans d1
 replace hbl : b < vh.heap.size := Nat.lt_of_lt_of_le hbl hvh.size
 replace HF := Lib.hid (HF.out.step hvh)
 replace kr := kr.below hvh kr.lt
 replace lr := kr.lt
 replace hb := hb.trans (hvh.mono hsz)
 replace hsz : g ≤ vh.heap.size := Nat.le_trans hsz hvh.size
 clear hvh
 go_upto_region 5 with (first | (refine wpList_store_blk rfl _ (.tmp 6) (.tmp 28) rfl vh.heap.size (lgc L0 (none, 0, 0)) rfl rfl _ _ (Blk.new vh _ _) (by rw [lgc_size h8]; exact log_info) (by rw [lgc_size h8]; rfl) lgc_ones ?_))
 have kl := Blk.new vh 131 #[.int .i64 0, .int .i64 0, .string ⟨#[]⟩, .int .i64 0, .int .i64 0, .int .i64 0, .int .i64 0, .int .i64 0, .int .i64 0, .int .i64 0, .int .i64 0, .int .i64 0, .int .i64 0, .int .i64 0, .int .i64 0, .int .i64 0, .int .i64 0, .int .i64 0, .int .i64 0, .int .i64 0, .int .i64 0, .int .i64 0, .int .i64 0, .int .i64 0, .int .i64 0, .int .i64 0, .int .i64 0, .int .i64 0, .int .i64 0, .int .i64 0, .int .i64 0, .int .i64 0, .int .i64 0, .int .i64 0, .int .i64 0, .slice none 0 0, .bool false, .int .i64 0]
 have krv := kr
 have hbv := hb
 replace kr := kr.alloc (.cells #[.int .i64 0, .int .i64 0, .string ⟨#[]⟩, .int .i64 0, .int .i64 0, .int .i64 0, .int .i64 0, .int .i64 0, .int .i64 0, .int .i64 0, .int .i64 0, .int .i64 0, .int .i64 0, .int .i64 0, .int .i64 0, .int .i64 0, .int .i64 0, .int .i64 0, .int .i64 0, .int .i64 0, .int .i64 0, .int .i64 0, .int .i64 0, .int .i64 0, .int .i64 0, .int .i64 0, .int .i64 0, .int .i64 0, .int .i64 0, .int .i64 0, .int .i64 0, .int .i64 0, .int .i64 0, .int .i64 0, .int .i64 0, .slice none 0 0, .bool false, .int .i64 0] 131)
 have hby := (Below.refl vh.heap.size vh).alloc (Nat.le_refl _) (.cells #[.int .i64 0, .int .i64 0, .string ⟨#[]⟩, .int .i64 0, .int .i64 0, .int .i64 0, .int .i64 0, .int .i64 0, .int .i64 0, .int .i64 0, .int .i64 0, .int .i64 0, .int .i64 0, .int .i64 0, .int .i64 0, .int .i64 0, .int .i64 0, .int .i64 0, .int .i64 0, .int .i64 0, .int .i64 0, .int .i64 0, .int .i64 0, .int .i64 0, .int .i64 0, .int .i64 0, .int .i64 0, .int .i64 0, .int .i64 0, .int .i64 0, .int .i64 0, .int .i64 0, .int .i64 0, .int .i64 0, .int .i64 0, .slice none 0 0, .bool false, .int .i64 0] 131)
 replace hb := hb.alloc hsz (.cells #[.int .i64 0, .int .i64 0, .string ⟨#[]⟩, .int .i64 0, .int .i64 0, .int .i64 0, .int .i64 0, .int .i64 0, .int .i64 0, .int .i64 0, .int .i64 0, .int .i64 0, .int .i64 0, .int .i64 0, .int .i64 0, .int .i64 0, .int .i64 0, .int .i64 0, .int .i64 0, .int .i64 0, .int .i64 0, .int .i64 0, .int .i64 0, .int .i64 0, .int .i64 0, .int .i64 0, .int .i64 0, .int .i64 0, .int .i64 0, .int .i64 0, .int .i64 0, .int .i64 0, .int .i64 0, .int .i64 0, .int .i64 0, .slice none 0 0, .bool false, .int .i64 0] 131)
 have hs2 : (vh.alloc (.cells #[.int .i64 0, .int .i64 0, .string ⟨#[]⟩, .int .i64 0, .int .i64 0, .int .i64 0, .int .i64 0, .int .i64 0, .int .i64 0, .int .i64 0, .int .i64 0, .int .i64 0, .int .i64 0, .int .i64 0, .int .i64 0, .int .i64 0, .int .i64 0, .int .i64 0, .int .i64 0, .int .i64 0, .int .i64 0, .int .i64 0, .int .i64 0, .int .i64 0, .int .i64 0, .int .i64 0, .int .i64 0, .int .i64 0, .int .i64 0, .int .i64 0, .int .i64 0, .int .i64 0, .int .i64 0, .int .i64 0, .int .i64 0, .slice none 0 0, .bool false, .int .i64 0] 131)).heap.size = vh.heap.size + 1 := World.size_alloc _ _
 obtain ⟨U, hU⟩ : ∃ U, vh.alloc (.cells #[.int .i64 0, .int .i64 0, .string ⟨#[]⟩, .int .i64 0, .int .i64 0, .int .i64 0, .int .i64 0, .int .i64 0, .int .i64 0, .int .i64 0, .int .i64 0, .int .i64 0, .int .i64 0, .int .i64 0, .int .i64 0, .int .i64 0, .int .i64 0, .int .i64 0, .int .i64 0, .int .i64 0, .int .i64 0, .int .i64 0, .int .i64 0, .int .i64 0, .int .i64 0, .int .i64 0, .int .i64 0, .int .i64 0, .int .i64 0, .int .i64 0, .int .i64 0, .int .i64 0, .int .i64 0, .int .i64 0, .int .i64 0, .slice none 0 0, .bool false, .int .i64 0] 131) = U := ⟨_, rfl⟩
 rw [hU] at kl kr hby hb hs2 ⊢
 obtain ⟨y, hy⟩ : ∃ y, vh.heap.size = y := ⟨_, rfl⟩
 rw [hy] at kl hby hs2 hbl HF lr hsz ⊢
 replace kl := kl.row (lgc L0 (none, 0, 0))
 replace kr := kr.farRow (g' := y) (by omega) (lgc L0 (none, 0, 0))
 replace hby := below_setRow hby y (lgc L0 (none, 0, 0)) (Nat.le_refl _)
 replace hb := below_setRow hb y (lgc L0 (none, 0, 0)) (by omega)
 have hs3 : (U.setRow y (lgc L0 (none, 0, 0))).heap.size = U.heap.size := setRow_size _ _ _
 obtain ⟨X, hX⟩ : ∃ X, U.setRow y (lgc L0 (none, 0, 0)) = X := ⟨_, rfl⟩
 rw [hX] at kl kr hby hb hs3 ⊢
 clear hX hU
 replace d0 := (hby.cell hbl).trans d0
 replace d1 := (hby.cell hbl).trans d1
 have lr := kr.lt
 have ll := kl.lt
 have hbX : b < X.heap.size := by omega
 subst he
 go_wp2_with (first | (refine wpList_store_blk rfl _ (.tmp 2) (.tmp 39) rfl g (lgc lg0 (none, 0, 0)) rfl rfl _ _ kr (by first | exact log_info | (rw [lgc_size lg0_8]; exact log_info)) (by first | rfl | exact (lgc_size lg0_8).symm) (by first | exact lgc_ones | simp [Value.oneCell']) ?_))
 have kz := kr.row (lgc lg0 (none, 0, 0))
 have hz := below_setRow hb g (lgc lg0 (none, 0, 0)) (by omega)
 refine row_end2 rfl rfl rfl rfl (log_row kz lg0_8) ?_
 exact ⟨(none, 0, 0), [], rfl, OwnV.nil _ _, hbase ▸ hz⟩
theorem hread_good (s : ByteArray) (rest : List UInt8) (hr : (gf rest).2.2.2 ≠ 0) (hsz : s.size ≤ 140737488351232) (w : World) (K : Int) (bd : ByteArray) (fs : List Fm) (hok : ∀ p ∈ (K, bd) :: fs, okF p) (hs : s.data.toList = flat ((K, bd) :: fs) ++ rest) (hn : ((K, bd) :: fs).length ≤ 5864062014636) (hK : K = 1) (he : hdOk bd.data.toList = true) :
 Calls Try.prog 91 #[.string s] w fun e w' => ∃ (sl : Sl) (ss : List Sl), e = .returned (.tuple #[.agg (lgc (hotL ((K, bd) :: fs)) sl), .int .i64 0]) ∧ OwnV w' w.heap.size (.slice sl.1 sl.2.1 sl.2.2) ss (hotL ((K, bd) :: fs)).revs ∧ Below w.heap.size w w' := by
 subst hK
 have hHg := hd_Hg he ((bd.size + 7 : Nat) : Int)
 have hres : hotL ((1, bd) :: fs) = readF { hdL bd.data.toList with good := ((bd.size + 7 : Nat) : Int) } (hdL bd.data.toList).text fs := by simp only [hotL]; rw [if_neg (by simp [he])]
 rw [hres]
 obtain ⟨RES, hRES⟩ : ∃ RES, readF { hdL bd.data.toList with good := ((bd.size + 7 : Nat) : Int) } (hdL bd.data.toList).text fs = RES := ⟨_, rfl⟩
 rw [hRES]
 have HRES := Lib.hid hRES
 have HHg := Lib.hid hHg
 clear hres hRES hHg
 obtain ⟨N, hN⟩ : ∃ N, ((1, bd) :: fs).length = N := ⟨_, rfl⟩
 obtain ⟨G, hG⟩ : ∃ G, (flat ((1, bd) :: fs)).length = G := ⟨_, rfl⟩
 have hsc := fun w => scan_any s ((1, bd) :: fs) rest hok hs hr hn (by omega) N G hN hG w
 have Hsc := Lib.hid hsc
 have hN1 : N = fs.length + 1 := by rw [← hN, List.length_cons]
 have hfl : fs.length ≤ 5864062014635 := by rw [List.length_cons] at hn; omega
 have hbd : bd.size ≤ 4000 := (hok (1, bd) (by simp)).2.2
 have Hok := Lib.hid (show ∀ f ∈ fs, okF f from fun f hf => hok f (List.mem_cons_of_mem _ hf))
 obtain ⟨n, hnl⟩ : ∃ n, fs.length = n := ⟨_, rfl⟩
 rw [hnl] at hN1 hfl
 have Hnl := Lib.hid hnl
 have hN0 : ((N : Int) == 0) = false := by simp; omega
 have hN2 : (0 : Int) < (N : Int) := by omega
 obtain ⟨L0, hL0⟩ : ∃ L0, hdL bd.data.toList = L0 := ⟨_, rfl⟩
 have h8 : Lg8 L0 := by rw [← hL0]; exact hdL_8 _
 have hhd := fun w => head_any bd w (by omega)
 obtain ⟨ok, hok2⟩ : ∃ ok, hdOk bd.data.toList = ok := ⟨_, rfl⟩
 rw [hok2] at hhd he
 rw [hL0] at hhd
 have Hhd := Lib.hid hhd
 have HL0 := Lib.hid hL0
 have Hok2 := Lib.hid hok2
 clear hsc hok hs hr hn hN hG hnl hhd hL0 hok2
 have hb0 : Below w.heap.size w w := Below.refl _ _
 have hb1 := hb0.alloc hb0.size (.cells #[.int .i64 0, .int .i64 0, .string ⟨#[]⟩, .int .i64 0, .int .i64 0, .int .i64 0, .int .i64 0, .int .i64 0, .int .i64 0, .int .i64 0, .int .i64 0, .int .i64 0, .int .i64 0, .int .i64 0, .int .i64 0, .int .i64 0, .int .i64 0, .int .i64 0, .int .i64 0, .int .i64 0, .int .i64 0, .int .i64 0, .int .i64 0, .int .i64 0, .int .i64 0, .int .i64 0, .int .i64 0, .int .i64 0, .int .i64 0, .int .i64 0, .int .i64 0, .int .i64 0, .int .i64 0, .int .i64 0, .int .i64 0, .slice none 0 0, .bool false, .int .i64 0] 131)
 have kr := Blk.new w 131 #[.int .i64 0, .int .i64 0, .string ⟨#[]⟩, .int .i64 0, .int .i64 0, .int .i64 0, .int .i64 0, .int .i64 0, .int .i64 0, .int .i64 0, .int .i64 0, .int .i64 0, .int .i64 0, .int .i64 0, .int .i64 0, .int .i64 0, .int .i64 0, .int .i64 0, .int .i64 0, .int .i64 0, .int .i64 0, .int .i64 0, .int .i64 0, .int .i64 0, .int .i64 0, .int .i64 0, .int .i64 0, .int .i64 0, .int .i64 0, .int .i64 0, .int .i64 0, .int .i64 0, .int .i64 0, .int .i64 0, .int .i64 0, .slice none 0 0, .bool false, .int .i64 0]
 clear hb0
 have hb := hb1
 clear hb1
 go_enter Try.func91, Try.ntmps91
 go_upto_region 1 with (fail)
 generalize (w.alloc (.cells #[.int .i64 0, .int .i64 0, .string ⟨#[]⟩, .int .i64 0, .int .i64 0, .int .i64 0, .int .i64 0, .int .i64 0, .int .i64 0, .int .i64 0, .int .i64 0, .int .i64 0, .int .i64 0, .int .i64 0, .int .i64 0, .int .i64 0, .int .i64 0, .int .i64 0, .int .i64 0, .int .i64 0, .int .i64 0, .int .i64 0, .int .i64 0, .int .i64 0, .int .i64 0, .int .i64 0, .int .i64 0, .int .i64 0, .int .i64 0, .int .i64 0, .int .i64 0, .int .i64 0, .int .i64 0, .int .i64 0, .int .i64 0, .slice none 0 0, .bool false, .int .i64 0] 131)) = W0 at *
 obtain ⟨g, hbase⟩ : ∃ g, w.heap.size = g := ⟨_, rfl⟩
 rw [hbase] at hb kr ⊢
 have hsz : g ≤ W0.heap.size := by have := hb.size; omega
 have lr := kr.lt
 replace kr : Blk W0 g 131 (lgc lg0 (none, 0, 0)) := kr
 go_wp2_with fail
 refine (Hsc.out W0).mono ?_
 rintro e v1 ⟨A, c, rfl, hF, hv1⟩
 replace kr := kr.below hv1 kr.lt
 replace lr := kr.lt
 replace hb := hb.trans (hv1.mono hsz)
 replace hsz : g ≤ v1.heap.size := Nat.le_trans hsz hv1.size
 clear hv1
 obtain ⟨b, o, rfl, hbl, d0, d1⟩ := hF.at_ 0 (by omega)
 simp only [Nat.zero_mul, Nat.add_zero, List.getElem_cons_zero] at d0 d1
 have hNc : (N : Int) ≤ (c : Int) := by have := hF.2.1; omega
 have hc9 := hF.2.2.1
 have HF := Lib.hid hF
 clear hF
 go_upto_region 4 with (fail)
 go_wp2_with fail
 refine (Hhd.out v1).mono ?_
 rintro e vh ⟨rfl, hvh⟩
 replace d0 := (hvh.cell hbl).trans d0
 replace d1 := (hvh.cell hbl).trans d1
 replace hbl : b < vh.heap.size := Nat.lt_of_lt_of_le hbl hvh.size
 replace HF := Lib.hid (HF.out.step hvh)
 replace kr := kr.below hvh kr.lt
 replace lr := kr.lt
 replace hb := hb.trans (hvh.mono hsz)
 replace hsz : g ≤ vh.heap.size := Nat.le_trans hsz hvh.size
 clear hvh
 go_upto_region 5 with (first | (refine wpList_store_blk rfl _ (.tmp 6) (.tmp 28) rfl vh.heap.size (lgc L0 (none, 0, 0)) rfl rfl _ _ (Blk.new vh _ _) (by rw [lgc_size h8]; exact log_info) (by rw [lgc_size h8]; rfl) lgc_ones ?_))
 have kl := Blk.new vh 131 #[.int .i64 0, .int .i64 0, .string ⟨#[]⟩, .int .i64 0, .int .i64 0, .int .i64 0, .int .i64 0, .int .i64 0, .int .i64 0, .int .i64 0, .int .i64 0, .int .i64 0, .int .i64 0, .int .i64 0, .int .i64 0, .int .i64 0, .int .i64 0, .int .i64 0, .int .i64 0, .int .i64 0, .int .i64 0, .int .i64 0, .int .i64 0, .int .i64 0, .int .i64 0, .int .i64 0, .int .i64 0, .int .i64 0, .int .i64 0, .int .i64 0, .int .i64 0, .int .i64 0, .int .i64 0, .int .i64 0, .int .i64 0, .slice none 0 0, .bool false, .int .i64 0]
 have krv := kr
 have hbv := hb
 replace kr := kr.alloc (.cells #[.int .i64 0, .int .i64 0, .string ⟨#[]⟩, .int .i64 0, .int .i64 0, .int .i64 0, .int .i64 0, .int .i64 0, .int .i64 0, .int .i64 0, .int .i64 0, .int .i64 0, .int .i64 0, .int .i64 0, .int .i64 0, .int .i64 0, .int .i64 0, .int .i64 0, .int .i64 0, .int .i64 0, .int .i64 0, .int .i64 0, .int .i64 0, .int .i64 0, .int .i64 0, .int .i64 0, .int .i64 0, .int .i64 0, .int .i64 0, .int .i64 0, .int .i64 0, .int .i64 0, .int .i64 0, .int .i64 0, .int .i64 0, .slice none 0 0, .bool false, .int .i64 0] 131)
 have hby := (Below.refl vh.heap.size vh).alloc (Nat.le_refl _) (.cells #[.int .i64 0, .int .i64 0, .string ⟨#[]⟩, .int .i64 0, .int .i64 0, .int .i64 0, .int .i64 0, .int .i64 0, .int .i64 0, .int .i64 0, .int .i64 0, .int .i64 0, .int .i64 0, .int .i64 0, .int .i64 0, .int .i64 0, .int .i64 0, .int .i64 0, .int .i64 0, .int .i64 0, .int .i64 0, .int .i64 0, .int .i64 0, .int .i64 0, .int .i64 0, .int .i64 0, .int .i64 0, .int .i64 0, .int .i64 0, .int .i64 0, .int .i64 0, .int .i64 0, .int .i64 0, .int .i64 0, .int .i64 0, .slice none 0 0, .bool false, .int .i64 0] 131)
 replace hb := hb.alloc hsz (.cells #[.int .i64 0, .int .i64 0, .string ⟨#[]⟩, .int .i64 0, .int .i64 0, .int .i64 0, .int .i64 0, .int .i64 0, .int .i64 0, .int .i64 0, .int .i64 0, .int .i64 0, .int .i64 0, .int .i64 0, .int .i64 0, .int .i64 0, .int .i64 0, .int .i64 0, .int .i64 0, .int .i64 0, .int .i64 0, .int .i64 0, .int .i64 0, .int .i64 0, .int .i64 0, .int .i64 0, .int .i64 0, .int .i64 0, .int .i64 0, .int .i64 0, .int .i64 0, .int .i64 0, .int .i64 0, .int .i64 0, .int .i64 0, .slice none 0 0, .bool false, .int .i64 0] 131)
 have hs2 : (vh.alloc (.cells #[.int .i64 0, .int .i64 0, .string ⟨#[]⟩, .int .i64 0, .int .i64 0, .int .i64 0, .int .i64 0, .int .i64 0, .int .i64 0, .int .i64 0, .int .i64 0, .int .i64 0, .int .i64 0, .int .i64 0, .int .i64 0, .int .i64 0, .int .i64 0, .int .i64 0, .int .i64 0, .int .i64 0, .int .i64 0, .int .i64 0, .int .i64 0, .int .i64 0, .int .i64 0, .int .i64 0, .int .i64 0, .int .i64 0, .int .i64 0, .int .i64 0, .int .i64 0, .int .i64 0, .int .i64 0, .int .i64 0, .int .i64 0, .slice none 0 0, .bool false, .int .i64 0] 131)).heap.size = vh.heap.size + 1 := World.size_alloc _ _
 obtain ⟨U, hU⟩ : ∃ U, vh.alloc (.cells #[.int .i64 0, .int .i64 0, .string ⟨#[]⟩, .int .i64 0, .int .i64 0, .int .i64 0, .int .i64 0, .int .i64 0, .int .i64 0, .int .i64 0, .int .i64 0, .int .i64 0, .int .i64 0, .int .i64 0, .int .i64 0, .int .i64 0, .int .i64 0, .int .i64 0, .int .i64 0, .int .i64 0, .int .i64 0, .int .i64 0, .int .i64 0, .int .i64 0, .int .i64 0, .int .i64 0, .int .i64 0, .int .i64 0, .int .i64 0, .int .i64 0, .int .i64 0, .int .i64 0, .int .i64 0, .int .i64 0, .int .i64 0, .slice none 0 0, .bool false, .int .i64 0] 131) = U := ⟨_, rfl⟩
 rw [hU] at kl kr hby hb hs2 ⊢
 obtain ⟨y, hy⟩ : ∃ y, vh.heap.size = y := ⟨_, rfl⟩
 rw [hy] at kl hby hs2 hbl HF lr hsz ⊢
 replace kl := kl.row (lgc L0 (none, 0, 0))
 replace kr := kr.farRow (g' := y) (by omega) (lgc L0 (none, 0, 0))
 replace hby := below_setRow hby y (lgc L0 (none, 0, 0)) (Nat.le_refl _)
 replace hb := below_setRow hb y (lgc L0 (none, 0, 0)) (by omega)
 have hs3 : (U.setRow y (lgc L0 (none, 0, 0))).heap.size = U.heap.size := setRow_size _ _ _
 obtain ⟨X, hX⟩ : ∃ X, U.setRow y (lgc L0 (none, 0, 0)) = X := ⟨_, rfl⟩
 rw [hX] at kl kr hby hb hs3 ⊢
 clear hX hU
 replace d0 := (hby.cell hbl).trans d0
 replace d1 := (hby.cell hbl).trans d1
 have lr := kr.lt
 have ll := kl.lt
 have hbX : b < X.heap.size := by omega
 subst he
 have c2 := kl.cell 2
 rw [lgc_text] at c2
 have c37 := kl.cell 37
 rw [lgc_good h8] at c37
 have f37 := kl.frozen 37
 have hwp := fits_wp hbd
 go_upto_region 9 with (fail)
 replace kl := kl.set_ 37 (.int .i64 ((bd.size : Int) + 7))
 rw [lgc_set_good h8] at kl
 replace hby := hby.setCell (p := ⟨y, 37, none⟩) (Nat.le_refl _) (.int .i64 ((bd.size : Int) + 7))
 replace kr := kr.far (p := ⟨y, 37, none⟩) (by simp only; omega) (.int .i64 ((bd.size : Int) + 7))
 replace hb := hb.setCell (p := ⟨y, 37, none⟩) (by simp only; omega) (.int .i64 ((bd.size : Int) + 7))
 have hs4 : (X.setCell ⟨y, 37, none⟩ (.int .i64 ((bd.size : Int) + 7))).heap.size = X.heap.size := by simp
 obtain ⟨Y, hY⟩ : ∃ Y, X.setCell ⟨y, 37, none⟩ (.int .i64 ((bd.size : Int) + 7)) = Y := ⟨_, rfl⟩
 rw [hY] at kl kr hby hb hs4 ⊢
 have hR : readF { L0 with good := (bd.size : Int) + 7 } L0.text fs = RES := by
  have := HRES.out
  rw [HL0.out] at this
  exact this
 have hHg : Hg { L0 with good := (bd.size : Int) + 7 } L0.text := by
  have := HHg.out
  rw [HL0.out] at this
  exact this
 have h8' : Lg8 { L0 with good := (bd.size : Int) + 7 } := h8
 have hgd : ({ L0 with good := (bd.size : Int) + 7 } : Lg).good = (bd.size : Int) + 7 := rfl
 have hrv0 : ({ L0 with good := (bd.size : Int) + 7 } : Lg).revs = [] := by rw [← HL0.out]; rfl
 obtain ⟨L1, hL1⟩ : ∃ L1, ({ L0 with good := (bd.size : Int) + 7 } : Lg) = L1 := ⟨_, rfl⟩
 rw [hL1] at kl hR hHg h8' hgd hrv0
 obtain ⟨T0, hT0⟩ : ∃ T0, L0.text = T0 := ⟨_, rfl⟩
 rw [hT0] at hR hHg ⊢
 clear c2 c37 f37 hwp hY hL1 hT0 HRES HHg HL0 h8 d0 d1
 have lr := kr.lt
 have ll := kl.lt
 have hgY : g ≤ Y.heap.size := by omega
 have hN1' : (1 : Int) ≤ (N : Int) := by omega
 have hc1' : (1 : Int) ≤ (c : Int) := by omega
 have hv0 : OwnV Y y (.slice none 0 0) [] L1.revs := by rw [hrv0]; exact OwnV.nil _ _
 by_cases hc1 : c = 1
 · subst hc1
   obtain rfl : n = 0 := by omega
   obtain rfl : N = 1 := by omega
   have hfs : fs = [] := List.eq_nil_of_length_eq_zero Hnl.out
   subst hfs
   obtain rfl : L1 = RES := hR
   have hgy : g < y := by omega
   clear hN1 hN0 hN2 hy hs2 hs3 hs4 hbv krv hby hgd hrv0 hsz hN1' hc1' hNc hc9 HF hbX hbl hHg hgY
   go_upto_region 10 with (fail)
   go_loopw [8, 10, 11, 12, 52, 59, 70] (fun tv q1 q2 q3 iv q4 q5 wr => iv = .int .i64 0 ∧ wr = Y) (fun tv q1 q2 q3 iv q4 q5 wr => 0)
   case atStart => exact ⟨rfl, rfl⟩
   obtain ⟨rfl, hwr⟩ := hrel
   rw [hwr]
   go_wp2_with (first | (refine wpList_load_blk rfl _ (.tmp 6) rfl y rfl _ (log_row kl h8') ?_) | (refine wpList_store_blk rfl _ (.tmp 2) (.tmp 107) rfl g (lgc L1 (none, 0, 0)) rfl rfl _ _ kr (by rw [lgc_size h8']; exact log_info) (by rw [lgc_size h8', lgc_size lg0_8]) lgc_ones ?_))
   have kz := kr.row (lgc L1 (none, 0, 0))
   have hz := below_setRow hb g (lgc L1 (none, 0, 0)) (by omega)
   have hvz := OwnV.box hv0 kr (by decide) (by decide) (Only.setRow Y g (lgc L1 (none, 0, 0)))
   refine row_end2 rfl rfl rfl rfl (log_row kz h8') ?_
   exact ⟨(none, 0, 0), [], rfl, hvz.base (by omega), hbase ▸ hz⟩
 · have HT := Lib.hid (RdF.tail HF.out)
   have Krv := Lib.hid krv
   have Hbv := Lib.hid hbv
   have Hgy : Hid (g < y ∧ vh.heap.size = y ∧ g ≤ vh.heap.size) := Lib.hid ⟨by omega, hy, by omega⟩
   have HbY := Lib.hid hby
   have Hkl := Lib.hid kl
   have Hhg := Lib.hid hHg
   have HR0 := Lib.hid hR
   have Hv0 := Lib.hid hv0
   have Hg0 : Hid (0 ≤ L1.good ∧ L1.good ≤ 4007 * ((0 : Nat) + 1 : Int)) := Lib.hid (by rw [hgd]; omega)
   clear HF krv hbv hby kl kr hb hHg hR hv0 hgd hrv0 lr ll hgY hy hs2 hs3 hs4 hsz h8'
   go_upto_region 10 with (fail)
   go_loopw [8, 10, 11, 12, 52, 59, 70] (fun tv q1 q2 q3 iv q4 q5 wr => ∃ (k : Nat) (T : ByteArray) (L : Lg) (sl : Sl) (ss : List Sl), k ≤ n ∧ iv = .int .i64 k ∧ tv = .string T ∧ Hid (Hg L T) ∧ Hid (Blk wr y 131 (lgc L sl)) ∧ Hid (OwnV wr y (.slice sl.1 sl.2.1 sl.2.2) ss L.revs) ∧ Hid (readF L T (fs.drop k) = RES) ∧ Hid (0 ≤ L.good ∧ L.good ≤ 4007 * ((k : Int) + 1)) ∧ Hid (Below y vh wr)) (fun tv q1 q2 q3 iv q4 q5 wr => n - (intOf iv).toNat)
   case atStart => exact ⟨0, T0, L1, (none, 0, 0), [], by omega, rfl, rfl, Hhg, Hkl, Hv0, HR0, Hg0, HbY⟩
   case round =>
    obtain ⟨k, T, L, sl, ss, hk, rfl, rfl, hHg, hkl, hv, hR, hG, hbw⟩ := hrel
    have h8 := hHg.out.l8
    have hgyv := Hgy.out
    have kl := hkl.out
    have lly := kl.lt
    have kr := Krv.out.below hbw.out (by omega)
    have hb := Hbv.out.trans (hbw.out.mono (by omega))
    have lr := kr.lt
    have hsl : sl.2.1 = L.revs.length := by obtain ⟨A9, c9, e9⟩ := hv.out.form; injection e9
    obtain ⟨hG0, hG1⟩ := hG.out
    by_cases hlt : k < n
    · have hkf : k < fs.length := by have := Hnl.out; omega
      obtain ⟨d0, d1⟩ := HT.out.2 k hkf
      replace d0 := (hbw.out.cell hbl).trans d0
      replace d1 := (hbw.out.cell hbl).trans d1
      have hbw' : b < wr.heap.size := by omega
      have hokf := Hok.out fs[k] (List.getElem_mem hkf)
      have hR2 := hR.out
      rw [List.drop_eq_getElem_cons hkf] at hR2
      obtain ⟨f, hf⟩ : ∃ f, fs[k] = f := ⟨_, rfl⟩
      rw [hf] at d0 d1 hokf hR2
      obtain ⟨K, b2⟩ := f
      simp only at d0 d1 hokf
      have hb2 : b2.size ≤ 4000 := hokf.2.2
      have hk0 : (0 : Int) ≤ (k : Int) := by omega
      have hkn : (k : Int) < (n : Int) := by omega
      have hG2 : L.good ≤ 24000000000000000 := by omega
      have HR2 := Lib.hid hR2
      obtain ⟨GG, hGG⟩ : ∃ GG, L.good = GG := ⟨_, rfl⟩
      rw [hGG] at hG0 hG1 hG2
      have HGG := Lib.hid hGG
      clear hf hokf hR2 hkf hR hG hGG
      go_upto_region 12 with (fail)
      replace kl := kl.alloc (.cells #[.int .i64 K, .string b2] 182)
      replace kr := kr.alloc (.cells #[.int .i64 K, .string b2] 182)
      have kf := Blk.new wr 182 #[.int .i64 K, .string b2]
      have hv2 := hv.out.alloc (.cells #[.int .i64 K, .string b2] 182)
      replace hb := hb.alloc (by omega) (.cells #[.int .i64 K, .string b2] 182)
      have hbw2 := hbw.out.alloc (by omega) (.cells #[.int .i64 K, .string b2] 182)
      have hs5 : (wr.alloc (.cells #[.int .i64 K, .string b2] 182)).heap.size = wr.heap.size + 1 := World.size_alloc _ _
      obtain ⟨F1, hF1⟩ : ∃ F1, wr.alloc (.cells #[.int .i64 K, .string b2] 182) = F1 := ⟨_, rfl⟩
      rw [hF1] at kl kr kf hv2 hb hbw2 hs5 ⊢
      obtain ⟨z, hz⟩ : ∃ z, wr.heap.size = z := ⟨_, rfl⟩
      rw [hz] at kf hs5 lly lr ⊢
      clear hF1 hv hbw d0 d1 hbw' hkl
      have e0 := kf.cell 0
      have e1 := kf.cell 1
      have lf := kf.lt
      have lr := kr.lt
      have ll := kl.lt
      by_cases h3 : K = 3
      · subst h3
        have c36 := kl.cell 36
        rw [lgc_whole h8] at c36
        have f36 := kl.frozen 36
        obtain ⟨wh, hwh⟩ : ∃ wh, L.whole = wh := ⟨_, rfl⟩
        rw [hwh] at c36
        have Hwh := Lib.hid hwh
        clear hwh
        cases wh with
        | true =>
          obtain rfl : L = RES := (rd_stop3 (.inl Hwh.out)).symm.trans HR2.out
          go_wp2_with (first | (refine wpList_load_blk rfl _ (.tmp 6) rfl y rfl _ (log_row kl h8) ?_) | (refine wpList_store_blk rfl _ (.tmp 2) (.tmp 68) rfl g (lgc L sl) rfl rfl _ _ kr (by rw [lgc_size h8]; exact log_info) (by rw [lgc_size h8, lgc_size lg0_8]) lgc_ones ?_))
          have kz := kr.row (lgc L sl)
          have hz := below_setRow hb g (lgc L sl) (by omega)
          have hvz := OwnV.box hv2 kr (by decide) (by decide) (Only.setRow F1 g (lgc L sl))
          refine row_end2 rfl rfl rfl rfl (log_row kz h8) ?_
          exact ⟨sl, ss, rfl, hvz.base (by omega), hbase ▸ hz⟩
        | false =>
          by_cases hb0 : b2.size = 0
          · obtain rfl : b2 = ⟨#[]⟩ := emp_of_size hb0
            have hR3 := (rd_go3 (fs := fs.drop (k + 1)) (l := L) (t := T) (b := ⟨#[]⟩) (by rw [Hwh.out]; rintro (h | h); exact absurd h (by decide); exact h rfl)).symm.trans HR2.out
            rw [HGG.out] at hR3
            have HR3 := Lib.hid hR3
            clear hR3 HR2
            have kl0 := kl
            go_upto_region 24 with (fail)
            replace kl := kl.set_ 36 (.bool true)
            rw [lgc_set_whole h8] at kl
            replace kf := kf.far (p := ⟨y, 36, none⟩) (by simp only; omega) (.bool true)
            replace kr := kr.far (p := ⟨y, 36, none⟩) (by simp only; omega) (.bool true)
            have hv3 := OwnV.box (cs := lgc L sl) hv2 (show Blk F1 y 131 (lgc L sl) from kl0) (by decide) (by decide) (Only.setSelf F1 y 36 (.bool true))
            replace hb := hb.setCell (p := ⟨y, 36, none⟩) (by simp only; omega) (.bool true)
            replace hbw2 := hbw2.setCell (p := ⟨y, 36, none⟩) (Nat.le_refl _) (.bool true)
            have hs6 : (F1.setCell ⟨y, 36, none⟩ (.bool true)).heap.size = F1.heap.size := by simp
            have h8 : Lg8 { L with whole := true } := h8
            have hgg : ({ L with whole := true } : Lg).good = GG := HGG.out
            clear hv2 kl0 c36 f36
            have hv2 := hv3
            clear hv3
            obtain ⟨S1, hS1⟩ : ∃ S1, F1.setCell ⟨y, 36, none⟩ (.bool true) = S1 := ⟨_, rfl⟩
            rw [hS1] at kl kf kr hv2 hb hbw2 hs6 ⊢
            clear hS1
            have c37 := kl.cell 37
            rw [lgc_good h8] at c37
            have f37 := kl.frozen 37
            have e1 := kf.cell 1
            have lf := kf.lt
            have ll := kl.lt
            rw [hgg] at c37
            go_wp2_with fail
            go_roundw
            case rel =>
             have kl3 := kl.set_ 37 (.int .i64 (GG + 7))
             rw [lgc_set_good h8] at kl3
             exact ⟨k + 1, T, _, sl, ss, by omega, by go_num, rfl, Lib.hid (hHg.out.done _), Lib.hid kl3, Lib.hid (OwnV.box hv2 kl (by decide) (by decide) (Only.setSelf S1 y 37 _)), HR3, Lib.hid ⟨by show (0 : Int) ≤ GG + 7; omega, by show GG + 7 ≤ 4007 * (((k + 1 : Nat) : Int) + 1); omega⟩, Lib.hid (hbw2.setCell (p := ⟨y, 37, none⟩) (Nat.le_refl _) _)⟩
            case measure => simp [intOf]; omega
          · have hbn : b2.toList.isEmpty = false := by
             rw [ByteArray.toList_eq]
             cases hx : b2.data.toList with
             | nil => exact absurd (show b2.data.size = 0 by rw [← Array.length_toList, hx]; rfl) hb0
             | cons a r => rfl
            obtain rfl : L = RES := (rd_stop3 (.inr hb0)).symm.trans HR2.out
            go_wp2_with (first | (refine wpList_load_blk rfl _ (.tmp 6) rfl y rfl _ (log_row kl h8) ?_) | (refine wpList_store_blk rfl _ (.tmp 2) (.tmp 68) rfl g (lgc L sl) rfl rfl _ _ kr (by rw [lgc_size h8]; exact log_info) (by rw [lgc_size h8, lgc_size lg0_8]) lgc_ones ?_))
            have kz := kr.row (lgc L sl)
            have hz := below_setRow hb g (lgc L sl) (by omega)
            have hvz := OwnV.box hv2 kr (by decide) (by decide) (Only.setRow F1 g (lgc L sl))
            refine row_end2 rfl rfl rfl rfl (log_row kz h8) ?_
            exact ⟨sl, ss, rfl, hvz.base (by omega), hbase ▸ hz⟩
      · by_cases h2 : K = 2
        · subst h2
          obtain ⟨x1, hx1⟩ : ∃ x1, (rN b2.data.toList).1 = x1 := ⟨_, rfl⟩
          obtain ⟨x2, hx2⟩ : ∃ x2, (rN (rN b2.data.toList).2.1).1 = x2 := ⟨_, rfl⟩
          obtain ⟨d, hd⟩ : ∃ d, readL (rN (rN b2.data.toList).2.1).2.1 = d := ⟨_, rfl⟩
          have hdt : ∀ q ∈ d, q.2.2.size ≤ 140737488351232 := by rw [← hd]; exact readL_small _
          have hrv : rvV b2.data.toList = ((x1 : Int), (x2 : Int), d) := by unfold rvV; rw [hx1, hx2, hd]
          obtain ⟨okr, hokr⟩ : ∃ okr, rvOk b2.data.toList = okr := ⟨_, rfl⟩
          have hcr := rev_any b2 F1 (by omega)
          rw [hrv, hokr] at hcr
          simp only at hcr
          have HRv := Lib.hid hrv
          have Hokr := Lib.hid hokr
          have Hcr := Lib.hid hcr
          have Hdt := Lib.hid hdt
          clear hx1 hx2 hd hdt hrv hokr hcr
          go_wp2_with fail
          refine Hcr.out.mono ?_
          rintro e v2 ⟨A2, n2, c2, rfl, ho2, -, hq2⟩
          replace kl := kl.below hq2 ll
          replace kr := kr.below hq2 lr
          replace kf := kf.below hq2 lf
          replace hv2 := hv2.below hq2
          replace hb := hb.trans (hq2.mono (by omega))
          replace hbw2 := hbw2.trans (hq2.mono (by omega))
          have hs6 := hq2.size
          have hoy := own_base ho2 (show y ≤ F1.heap.size by omega)
          clear e0 e1 lf lr ll ho2 hq2
          go_upto_region 20 with (fail)
          have OB : Obj := .cells #[.int .i64 x1, .int .i64 x2, .slice A2 n2 c2] 30
          replace kl := kl.alloc (.cells #[.int .i64 x1, .int .i64 x2, .slice A2 n2 c2] 30)
          replace kr := kr.alloc (.cells #[.int .i64 x1, .int .i64 x2, .slice A2 n2 c2] 30)
          replace kf := kf.alloc (.cells #[.int .i64 x1, .int .i64 x2, .slice A2 n2 c2] 30)
          have kq := Blk.new v2 30 #[.int .i64 x1, .int .i64 x2, .slice A2 n2 c2]
          replace hv2 := hv2.alloc (.cells #[.int .i64 x1, .int .i64 x2, .slice A2 n2 c2] 30)
          replace hoy := own_below hoy ((Below.refl v2.heap.size v2).alloc (Nat.le_refl _) (.cells #[.int .i64 x1, .int .i64 x2, .slice A2 n2 c2] 30))
          replace hb := hb.alloc (by omega) (.cells #[.int .i64 x1, .int .i64 x2, .slice A2 n2 c2] 30)
          replace hbw2 := hbw2.alloc (by omega) (.cells #[.int .i64 x1, .int .i64 x2, .slice A2 n2 c2] 30)
          have hs7 : (v2.alloc (.cells #[.int .i64 x1, .int .i64 x2, .slice A2 n2 c2] 30)).heap.size = v2.heap.size + 1 := World.size_alloc _ _
          clear OB
          obtain ⟨R1, hR1⟩ : ∃ R1, v2.alloc (.cells #[.int .i64 x1, .int .i64 x2, .slice A2 n2 c2] 30) = R1 := ⟨_, rfl⟩
          rw [hR1] at kl kr kf kq hv2 hoy hb hbw2 hs7 ⊢
          obtain ⟨zr, hzr⟩ : ∃ zr, v2.heap.size = zr := ⟨_, rfl⟩
          rw [hzr] at kq hs7 hs6 ⊢
          clear hR1 hzr
          have lf := kf.lt
          have lr := kr.lt
          have ll := kl.lt
          have lq := kq.lt
          cases okr with
          | false =>
            obtain rfl : L = RES := (rd_stop2 (fun h => by rw [Hokr.out] at h; exact absurd h.1 (by decide))).symm.trans HR2.out
            go_wp2_with (first | (refine wpList_load_blk rfl _ (.tmp 6) rfl y rfl _ (log_row kl h8) ?_) | (refine wpList_store_blk rfl _ (.tmp 2) (.tmp 88) rfl g (lgc L sl) rfl rfl _ _ kr (by rw [lgc_size h8]; exact log_info) (by rw [lgc_size h8, lgc_size lg0_8]) lgc_ones ?_))
            have kz := kr.row (lgc L sl)
            have hz := below_setRow hb g (lgc L sl) (by omega)
            have hvz := OwnV.box hv2 kr (by decide) (by decide) (Only.setRow R1 g (lgc L sl))
            refine row_end2 rfl rfl rfl rfl (log_row kz h8) ?_
            exact ⟨sl, ss, rfl, hvz.base (by omega), hbase ▸ hz⟩
          | true =>
            obtain ⟨E, hE⟩ : ∃ E, nextE L T.size ((x1 : Int), (x2 : Int), d) = E := ⟨_, rfl⟩
            have hnx := next_any L sl h8 hsl hHg.out.base0 hHg.out.base1 (by have := hHg.out.len; omega) T.size ((x1 : Int), (x2 : Int), d) A2 n2 c2 R1 (rdSx hoy Hdt.out)
            rw [hE] at hnx
            have Hnx := Lib.hid hnx
            have HE := Lib.hid hE
            clear hnx hE
            have g0 := kq.cell 0
            have g1 := kq.cell 1
            have g2 := kq.cell 2
            go_wp2_with (first | (refine wpList_load_blkW (by simp [Region.wanted, yielded]) _ (.tmp 6) rfl y rfl _ (log_row kl h8) ?_))
            refine Hnx.out.mono ?_
            rintro e v3 ⟨rfl, hq3⟩
            replace kl := kl.below hq3 ll
            replace kr := kr.below hq3 lr
            replace kf := kf.below hq3 lf
            replace kq := kq.below hq3 lq
            replace hv2 := hv2.below hq3
            replace hoy := own_below hoy hq3
            replace hb := hb.trans (hq3.mono (by omega))
            replace hbw2 := hbw2.trans (hq3.mono (by omega))
            have hs8 := hq3.size
            clear hq3 g0 g1 g2 Hnx
            have lf := kf.lt
            have lr := kr.lt
            have ll := kl.lt
            have lq := kq.lt
            by_cases hE0 : E = 0
            · subst hE0
              have hR3 := (rd_go2 (l := L) (t := T) (b := b2) (fs := fs.drop (k + 1)) ⟨Hokr.out, by rw [HRv.out]; exact HE.out⟩).symm.trans HR2.out
              rw [HRv.out, HGG.out] at hR3
              have HR3 := Lib.hid hR3
              clear hR3 HR2
              have hx7 : x1 < 8 := by
               have := (one_parts (next_len HE.out).1).2.1
               simp only at this
               omega
              have hlen := hHg.out.len
              have g2 := kq.cell 2
              have hdo := do_any d A2 n2 c2 v3.heap.size T v3 (rdSx hoy Hdt.out) (Nat.le_refl _) (by have := hHg.out.txt; omega)
              have Hdo := Lib.hid hdo
              clear hdo
              go_wp2_with fail
              refine Hdo.out.mono ?_
              rintro e v4 ⟨rfl, hq4⟩
              replace kl := kl.below hq4 ll
              replace kr := kr.below hq4 lr
              replace kf := kf.below hq4 lf
              replace kq := kq.below hq4 lq
              replace hv2 := hv2.below hq4
              replace hoy := own_below hoy hq4
              replace hb := hb.trans (hq4.mono (by omega))
              replace hbw2 := hbw2.trans (hq4.mono (by omega))
              have hs9 := hq4.size
              clear hq4 g2 Hdo
              have lf := kf.lt
              have lr := kr.lt
              have ll := kl.lt
              have lq := kq.lt
              have g0 := kq.cell 0
              have g1 := kq.cell 1
              have g2 := kq.cell 2
              have had := hadd_any y 0 131 [] [] L sl ss x1 (x2 : Int) d A2 n2 c2 y v4 (by rw [lgin_none]; exact kl) rfl h8 (by decide) (by decide) hv2 (by omega) hoy Hdt.out hx7 (by omega) hHg.out.base0 hHg.out.base1
              have Had := Lib.hid had
              clear had
              go_wp2_with fail
              refine Had.out.mono ?_
              rintro e v5 ⟨rfl, sl', hkl5, hv5, ho5, -⟩
              rw [lgin_none] at hkl5
              have hrow := own_ge hv2.row
              have hq5 : Below y v4 v5 := ho5.below (by omega) (fun q hq => by rcases hq with rfl | hq; exact Nat.le_refl _; exact hrow q hq)
              have hnf : ∀ q, (q = y ∨ (Value.slice sl.1 sl.2.1 sl.2.2).ownBlock = some q) → q ≠ z := fun q hq e9 => by
               subst e9
               rcases hq with rfl | hq
               · omega
               · exact own_blk_ne hv2.row kf (by decide) hq
              replace kf := kf.only ho5 (fun hq => hnf z hq rfl)
              replace kr := kr.below hq5 (by omega)
              replace kl := hkl5
              clear hv2
              have hv2 := hv5
              replace hb := hb.trans (hq5.mono (by omega))
              replace hbw2 := hbw2.trans hq5
              have hs6 := hq5.size
              have hadv := hHg.out.add HE.out (GG + (((b2.size : Int)) + 7))
              have hgg : (addL L ((x1 : Int), (x2 : Int), d)).good = GG := HGG.out
              have h8 : Lg8 (addL L ((x1 : Int), (x2 : Int), d)) := addL_8 h8 _
              clear hv5 hkl5 ho5 hnf hrow hq5 Had g0 g1 g2 kq lq
              skip
              obtain ⟨S1, hS1⟩ : ∃ S1, v5 = S1 := ⟨_, rfl⟩
              rw [hS1] at kl kf kr hv2 hb hbw2 hs6 ⊢
              clear hS1
              have c37 := kl.cell 37
              rw [lgc_good h8] at c37
              have f37 := kl.frozen 37
              have e1 := kf.cell 1
              have lf := kf.lt
              have ll := kl.lt
              rw [hgg] at c37
              go_wp2_with fail
              go_roundw
              case rel =>
               have kl3 := kl.set_ 37 (.int .i64 (GG + ((b2.size : Int) + 7)))
               rw [lgc_set_good h8] at kl3
               exact ⟨k + 1, (doS d T), _, sl', _, by omega, by go_num, rfl, Lib.hid hadv, Lib.hid kl3, Lib.hid (OwnV.box hv2 kl (by decide) (by decide) (Only.setSelf S1 y 37 _)), HR3, Lib.hid ⟨by show (0 : Int) ≤ GG + ((b2.size : Int) + 7); omega, by show GG + ((b2.size : Int) + 7) ≤ 4007 * (((k + 1 : Nat) : Int) + 1); omega⟩, Lib.hid (hbw2.setCell (p := ⟨y, 37, none⟩) (Nat.le_refl _) _)⟩
              case measure => simp [intOf]; omega
            · have hEn : (E != 0) = true := by simpa using hE0
              obtain rfl : L = RES := (rd_stop2 (fun h => by rw [HRv.out, HE.out] at h; exact hE0 h.2)).symm.trans HR2.out
              go_wp2_with (first | (refine wpList_load_blk rfl _ (.tmp 6) rfl y rfl _ (log_row kl h8) ?_) | (refine wpList_store_blk rfl _ (.tmp 2) (.tmp 88) rfl g (lgc L sl) rfl rfl _ _ kr (by rw [lgc_size h8]; exact log_info) (by rw [lgc_size h8, lgc_size lg0_8]) lgc_ones ?_))
              have kz := kr.row (lgc L sl)
              have hz := below_setRow hb g (lgc L sl) (by omega)
              have hvz := OwnV.box hv2 kr (by decide) (by decide) (Only.setRow v3 g (lgc L sl))
              refine row_end2 rfl rfl rfl rfl (log_row kz h8) ?_
              exact ⟨sl, ss, rfl, hvz.base (by omega), hbase ▸ hz⟩
        · have h3' : (K == 3) = false := by simpa using h3
          have h2' : (K == 2) = false := by simpa using h2
          obtain rfl : L = RES := (rd_stop h3 h2).symm.trans HR2.out
          go_wp2_with (first | (refine wpList_load_blk rfl _ (.tmp 6) rfl y rfl _ (log_row kl h8) ?_) | (refine wpList_store_blk rfl _ (.tmp 2) (.tmp 58) rfl g (lgc L sl) rfl rfl _ _ kr (by rw [lgc_size h8]; exact log_info) (by rw [lgc_size h8, lgc_size lg0_8]) lgc_ones ?_))
          have kz := kr.row (lgc L sl)
          have hz := below_setRow hb g (lgc L sl) (by omega)
          have hvz := OwnV.box hv2 kr (by decide) (by decide) (Only.setRow F1 g (lgc L sl))
          refine row_end2 rfl rfl rfl rfl (log_row kz h8) ?_
          exact ⟨sl, ss, rfl, hvz.base (by omega), hbase ▸ hz⟩
    · obtain rfl : k = n := by omega
      have hR2 := hR.out
      rw [List.drop_of_length_le (by have := Hnl.out; omega)] at hR2
      obtain rfl : L = RES := hR2
      go_wp2_with (first | (refine wpList_load_blk rfl _ (.tmp 6) rfl y rfl _ (log_row kl h8) ?_) | (refine wpList_store_blk rfl _ (.tmp 2) (.tmp 107) rfl g (lgc L sl) rfl rfl _ _ kr (by rw [lgc_size h8]; exact log_info) (by rw [lgc_size h8, lgc_size lg0_8]) lgc_ones ?_))
      have kz := kr.row (lgc L sl)
      have hz := below_setRow hb g (lgc L sl) (by omega)
      have hvz := OwnV.box hv.out kr (by decide) (by decide) (Only.setRow wr g (lgc L sl))
      refine row_end2 rfl rfl rfl rfl (log_row kz h8) ?_
      exact ⟨sl, ss, rfl, hvz.base (by omega), hbase ▸ hz⟩
theorem hread_fs (s : ByteArray) (fs : List Fm) (rest : List UInt8) (hok : ∀ p ∈ fs, okF p) (hs : s.data.toList = flat fs ++ rest) (hr : (gf rest).2.2.2 ≠ 0) (hn : fs.length ≤ 5864062014636) (hsz : s.size ≤ 140737488351232) (w : World) :
 Calls Try.prog 91 #[.string s] w fun e w' => ∃ (sl : Sl) (ss : List Sl), e = .returned (.tuple #[.agg (lgc (hotL fs) sl), .int .i64 (hotE fs)]) ∧ OwnV w' w.heap.size (.slice sl.1 sl.2.1 sl.2.2) ss (hotL fs).revs ∧ Below w.heap.size w w' := by
 cases fs with
 | nil => exact hread_none s rest hr hsz w hs
 | cons f fs =>
   obtain ⟨K, bd⟩ := f
   by_cases hK : K = 1
   · by_cases he : hdOk bd.data.toList = true
     · have e : hotE ((K, bd) :: fs) = 0 := by simp only [hotE]; rw [if_neg (by simp [hK, he])]
       rw [e]
       exact hread_good s rest hr hsz w K bd fs hok hs hn hK he
     · have he : hdOk bd.data.toList = false := by simpa using he
       have e : hotE ((K, bd) :: fs) = 3 := by simp only [hotE]; rw [if_pos (.inr he)]
       have e2 : hotL ((K, bd) :: fs) = lg0 := by simp only [hotL]; rw [if_pos (.inr he)]
       rw [e, e2]
       exact hread_head s rest hr hsz w K bd fs hok hs hn hK he
   · have e : hotE ((K, bd) :: fs) = 3 := by simp only [hotE]; rw [if_pos (.inl hK)]
     have e2 : hotL ((K, bd) :: fs) = lg0 := by simp only [hotL]; rw [if_pos (.inl hK)]
     rw [e, e2]
     exact hread_kind s rest hr hsz w K bd fs hok hs hn hK
end Go.Proofs.Ytokngfinnieccaa
