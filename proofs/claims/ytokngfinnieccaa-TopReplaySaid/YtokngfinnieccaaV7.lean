/- Contract of hot.head. Contracts of part.Maker's methods: Cut, Put, flush, Keep, Done. -/
import Derived.Test.YtokngfinnieccaaV5
import Derived.Test.YtokngfinnieccaaV6
import Derived.StillTailTactics
import Derived.Test.YtokngfinnieccaaV3
namespace Go.Proofs.Ytokngfinnieccaa
open Go.ChangeShapes Go.WideShapes Go.RowKit
set_option linter.unusedVariables false
set_option linter.unusedSimpArgs false
set_option maxRecDepth 100000
set_option maxHeartbeats 4000000
theorem head_any (s : ByteArray) (w : World) (hs : s.size ≤ 140737488351232) :
 Calls Try.prog 116 #[.string s] w fun e w' => e = .returned (.tuple #[.agg (lgc (hdL s.data.toList) (none, 0, 0)), .bool (hdOk s.data.toList)]) ∧ Below w.heap.size w w' := by
 rcases hx : rN s.data.toList with ⟨x1, r1, e1⟩
 rcases hy : rN r1 with ⟨x2, r2, e2⟩
 obtain ⟨RR, hRR⟩ : ∃ RR, tk2 8 r2 (true && !e1 && !e2) = RR := ⟨_, rfl⟩
 have hhd : hdR s.data.toList = (((x1 : Int), (x2 : Int)) :: RR.1, RR.2) := by
  unfold hdR
  rw [tk2, hx]
  simp only
  rw [hy]
  simp only
  rw [hRR]
 have hL : hdL s.data.toList = ⟨x1, x2, ⟨RR.2.1.toArray⟩, RR.1, RR.1, [], false, 0⟩ := by unfold hdL; rw [hhd]; rfl
 have hOk : hdOk s.data.toList = (RR.2.2 && decide (RR.2.1.length ≤ 500)) := by unfold hdOk; rw [hhd]
 have hx1 := (gn_small s.data.toList).1
 have hlenR : RR.1.length = 8 := by rw [← hRR]; exact tk2_len 8 _ _
 rw [hL, hOk]
 have HX := Lib.hid hx
 have HY := Lib.hid hy
 have HRR := Lib.hid hRR
 have HlenR := Lib.hid hlenR
 clear hhd hL hOk hx hy hRR hx1 hlenR
 have hb0 : Below w.heap.size w w := Below.refl _ _
 have hb1 := hb0.alloc hb0.size (.cells #[.string s] 9)
 have kt := Blk.new w 9 #[.string s]
 have hb2 := hb1.alloc hb1.size (.cells #[.int .i64 0, .int .i64 0, .string ⟨#[]⟩, .int .i64 0, .int .i64 0, .int .i64 0, .int .i64 0, .int .i64 0, .int .i64 0, .int .i64 0, .int .i64 0, .int .i64 0, .int .i64 0, .int .i64 0, .int .i64 0, .int .i64 0, .int .i64 0, .int .i64 0, .int .i64 0, .int .i64 0, .int .i64 0, .int .i64 0, .int .i64 0, .int .i64 0, .int .i64 0, .int .i64 0, .int .i64 0, .int .i64 0, .int .i64 0, .int .i64 0, .int .i64 0, .int .i64 0, .int .i64 0, .int .i64 0, .int .i64 0, .slice none 0 0, .bool false, .int .i64 0] 131)
 replace kt := kt.alloc (.cells #[.int .i64 0, .int .i64 0, .string ⟨#[]⟩, .int .i64 0, .int .i64 0, .int .i64 0, .int .i64 0, .int .i64 0, .int .i64 0, .int .i64 0, .int .i64 0, .int .i64 0, .int .i64 0, .int .i64 0, .int .i64 0, .int .i64 0, .int .i64 0, .int .i64 0, .int .i64 0, .int .i64 0, .int .i64 0, .int .i64 0, .int .i64 0, .int .i64 0, .int .i64 0, .int .i64 0, .int .i64 0, .int .i64 0, .int .i64 0, .int .i64 0, .int .i64 0, .int .i64 0, .int .i64 0, .int .i64 0, .int .i64 0, .slice none 0 0, .bool false, .int .i64 0] 131)
 have kr := Blk.new (w.alloc (.cells #[.string s] 9)) 131 #[.int .i64 0, .int .i64 0, .string ⟨#[]⟩, .int .i64 0, .int .i64 0, .int .i64 0, .int .i64 0, .int .i64 0, .int .i64 0, .int .i64 0, .int .i64 0, .int .i64 0, .int .i64 0, .int .i64 0, .int .i64 0, .int .i64 0, .int .i64 0, .int .i64 0, .int .i64 0, .int .i64 0, .int .i64 0, .int .i64 0, .int .i64 0, .int .i64 0, .int .i64 0, .int .i64 0, .int .i64 0, .int .i64 0, .int .i64 0, .int .i64 0, .int .i64 0, .int .i64 0, .int .i64 0, .int .i64 0, .int .i64 0, .slice none 0 0, .bool false, .int .i64 0]
 have hb3 := hb2.alloc hb2.size (.cells #[.bool true] 4)
 replace kt := kt.alloc (.cells #[.bool true] 4)
 replace kr := kr.alloc (.cells #[.bool true] 4)
 have kq := Blk.new ((w.alloc (.cells #[.string s] 9)).alloc (.cells #[.int .i64 0, .int .i64 0, .string ⟨#[]⟩, .int .i64 0, .int .i64 0, .int .i64 0, .int .i64 0, .int .i64 0, .int .i64 0, .int .i64 0, .int .i64 0, .int .i64 0, .int .i64 0, .int .i64 0, .int .i64 0, .int .i64 0, .int .i64 0, .int .i64 0, .int .i64 0, .int .i64 0, .int .i64 0, .int .i64 0, .int .i64 0, .int .i64 0, .int .i64 0, .int .i64 0, .int .i64 0, .int .i64 0, .int .i64 0, .int .i64 0, .int .i64 0, .int .i64 0, .int .i64 0, .int .i64 0, .int .i64 0, .slice none 0 0, .bool false, .int .i64 0] 131)) 4 #[.bool true]
 clear hb0 hb1 hb2
 have hb := hb3
 clear hb3
 simp only [World.size_alloc] at kt kr kq
 go_enter Try.func116, Try.ntmps116
 go_upto_region 2 with (fail)
 generalize (((w.alloc (.cells #[.string s] 9)).alloc (.cells #[.int .i64 0, .int .i64 0, .string ⟨#[]⟩, .int .i64 0, .int .i64 0, .int .i64 0, .int .i64 0, .int .i64 0, .int .i64 0, .int .i64 0, .int .i64 0, .int .i64 0, .int .i64 0, .int .i64 0, .int .i64 0, .int .i64 0, .int .i64 0, .int .i64 0, .int .i64 0, .int .i64 0, .int .i64 0, .int .i64 0, .int .i64 0, .int .i64 0, .int .i64 0, .int .i64 0, .int .i64 0, .int .i64 0, .int .i64 0, .int .i64 0, .int .i64 0, .int .i64 0, .int .i64 0, .int .i64 0, .int .i64 0, .slice none 0 0, .bool false, .int .i64 0] 131)).alloc (.cells #[.bool true] 4)) = W0 at *
 obtain ⟨g, hbase⟩ : ∃ g, w.heap.size = g := ⟨_, rfl⟩
 rw [hbase] at hb kt kr kq ⊢
 have hsz : g ≤ W0.heap.size := by have := hb.size; omega
 have lt := kt.lt
 have lr := kr.lt
 have lq := kq.lt
 go_wp2_with fail
 have hc := take_any g (g + 1 + 1) s true W0 kt kq hs
 rw [HX.out] at hc
 refine hc.mono ?_
 clear hc
 rintro e wa ⟨rfl, s1, zt, zq, hd1, hl1, hoa⟩
 simp only at hd1 zq
 replace kt := zt
 clear zt
 replace lt := kt.lt
 replace kr := kr.only hoa (by intro h_; rcases h_ with h_ | h_ <;> omega)
 replace lr := kr.lt
 replace kq := zq
 clear zq
 replace lq := kq.lt
 replace hb := hb.trans (Only.below hoa hsz (fun k h_ => by rcases h_ with rfl | rfl <;> omega))
 replace hsz : g ≤ wa.heap.size := Nat.le_trans hsz hoa.2.2.2.1
 go_wp2_with fail
 have hc := take_any g (g + 1 + 1) s1 (true && !e1) wa kt kq (by omega)
 rw [hd1, HY.out] at hc
 refine hc.mono ?_
 clear hc
 rintro e wb ⟨rfl, s2, zt, zq, hd2, hl2, hob⟩
 simp only at hd2 zq
 replace kt := zt
 clear zt
 replace lt := kt.lt
 replace kr := kr.only hob (by intro h_; rcases h_ with h_ | h_ <;> omega)
 replace lr := kr.lt
 replace kq := zq
 clear zq
 replace lq := kq.lt
 replace hb := hb.trans (Only.below hob hsz (fun k h_ => by rcases h_ with rfl | rfl <;> omega))
 replace hsz : g ≤ wb.heap.size := Nat.le_trans hsz hob.2.2.2.1
 go_upto_region 3 with (first | (refine wpList_store_blk rfl _ (.tmp 5) (.tmp 9) rfl wb.heap.size _ rfl rfl _ _ (Blk.new wb _ _) log_info rfl (by simp [Value.oneCell']) ?_))
 replace kt := kt.alloc (.cells #[.int .i64 0, .int .i64 0, .string ⟨#[]⟩, .int .i64 0, .int .i64 0, .int .i64 0, .int .i64 0, .int .i64 0, .int .i64 0, .int .i64 0, .int .i64 0, .int .i64 0, .int .i64 0, .int .i64 0, .int .i64 0, .int .i64 0, .int .i64 0, .int .i64 0, .int .i64 0, .int .i64 0, .int .i64 0, .int .i64 0, .int .i64 0, .int .i64 0, .int .i64 0, .int .i64 0, .int .i64 0, .int .i64 0, .int .i64 0, .int .i64 0, .int .i64 0, .int .i64 0, .int .i64 0, .int .i64 0, .int .i64 0, .slice none 0 0, .bool false, .int .i64 0] 131)
 replace kr := kr.alloc (.cells #[.int .i64 0, .int .i64 0, .string ⟨#[]⟩, .int .i64 0, .int .i64 0, .int .i64 0, .int .i64 0, .int .i64 0, .int .i64 0, .int .i64 0, .int .i64 0, .int .i64 0, .int .i64 0, .int .i64 0, .int .i64 0, .int .i64 0, .int .i64 0, .int .i64 0, .int .i64 0, .int .i64 0, .int .i64 0, .int .i64 0, .int .i64 0, .int .i64 0, .int .i64 0, .int .i64 0, .int .i64 0, .int .i64 0, .int .i64 0, .int .i64 0, .int .i64 0, .int .i64 0, .int .i64 0, .int .i64 0, .int .i64 0, .slice none 0 0, .bool false, .int .i64 0] 131)
 replace kq := kq.alloc (.cells #[.int .i64 0, .int .i64 0, .string ⟨#[]⟩, .int .i64 0, .int .i64 0, .int .i64 0, .int .i64 0, .int .i64 0, .int .i64 0, .int .i64 0, .int .i64 0, .int .i64 0, .int .i64 0, .int .i64 0, .int .i64 0, .int .i64 0, .int .i64 0, .int .i64 0, .int .i64 0, .int .i64 0, .int .i64 0, .int .i64 0, .int .i64 0, .int .i64 0, .int .i64 0, .int .i64 0, .int .i64 0, .int .i64 0, .int .i64 0, .int .i64 0, .int .i64 0, .int .i64 0, .int .i64 0, .int .i64 0, .int .i64 0, .slice none 0 0, .bool false, .int .i64 0] 131)
 have kl := Blk.new wb 131 #[.int .i64 0, .int .i64 0, .string ⟨#[]⟩, .int .i64 0, .int .i64 0, .int .i64 0, .int .i64 0, .int .i64 0, .int .i64 0, .int .i64 0, .int .i64 0, .int .i64 0, .int .i64 0, .int .i64 0, .int .i64 0, .int .i64 0, .int .i64 0, .int .i64 0, .int .i64 0, .int .i64 0, .int .i64 0, .int .i64 0, .int .i64 0, .int .i64 0, .int .i64 0, .int .i64 0, .int .i64 0, .int .i64 0, .int .i64 0, .int .i64 0, .int .i64 0, .int .i64 0, .int .i64 0, .int .i64 0, .int .i64 0, .slice none 0 0, .bool false, .int .i64 0]
 replace hb := hb.alloc hsz (.cells #[.int .i64 0, .int .i64 0, .string ⟨#[]⟩, .int .i64 0, .int .i64 0, .int .i64 0, .int .i64 0, .int .i64 0, .int .i64 0, .int .i64 0, .int .i64 0, .int .i64 0, .int .i64 0, .int .i64 0, .int .i64 0, .int .i64 0, .int .i64 0, .int .i64 0, .int .i64 0, .int .i64 0, .int .i64 0, .int .i64 0, .int .i64 0, .int .i64 0, .int .i64 0, .int .i64 0, .int .i64 0, .int .i64 0, .int .i64 0, .int .i64 0, .int .i64 0, .int .i64 0, .int .i64 0, .int .i64 0, .int .i64 0, .slice none 0 0, .bool false, .int .i64 0] 131)
 have hs1 : (wb.alloc (.cells #[.int .i64 0, .int .i64 0, .string ⟨#[]⟩, .int .i64 0, .int .i64 0, .int .i64 0, .int .i64 0, .int .i64 0, .int .i64 0, .int .i64 0, .int .i64 0, .int .i64 0, .int .i64 0, .int .i64 0, .int .i64 0, .int .i64 0, .int .i64 0, .int .i64 0, .int .i64 0, .int .i64 0, .int .i64 0, .int .i64 0, .int .i64 0, .int .i64 0, .int .i64 0, .int .i64 0, .int .i64 0, .int .i64 0, .int .i64 0, .int .i64 0, .int .i64 0, .int .i64 0, .int .i64 0, .int .i64 0, .int .i64 0, .slice none 0 0, .bool false, .int .i64 0] 131)).heap.size = wb.heap.size + 1 := World.size_alloc _ _
 obtain ⟨U1, hU_⟩ : ∃ U_, (wb.alloc (.cells #[.int .i64 0, .int .i64 0, .string ⟨#[]⟩, .int .i64 0, .int .i64 0, .int .i64 0, .int .i64 0, .int .i64 0, .int .i64 0, .int .i64 0, .int .i64 0, .int .i64 0, .int .i64 0, .int .i64 0, .int .i64 0, .int .i64 0, .int .i64 0, .int .i64 0, .int .i64 0, .int .i64 0, .int .i64 0, .int .i64 0, .int .i64 0, .int .i64 0, .int .i64 0, .int .i64 0, .int .i64 0, .int .i64 0, .int .i64 0, .int .i64 0, .int .i64 0, .int .i64 0, .int .i64 0, .int .i64 0, .int .i64 0, .slice none 0 0, .bool false, .int .i64 0] 131)) = U_ := ⟨_, rfl⟩
 rw [hU_] at kt kr kq hb kl hs1 ⊢
 clear hU_
 obtain ⟨y, hey⟩ : ∃ y, wb.heap.size = y := ⟨_, rfl⟩
 rw [hey] at kl ⊢
 have nb1 : g ≤ y := by omega
 replace hsz : g ≤ U1.heap.size := by omega
 have nq1_t : g < y := by omega
 have nq1_r : g + 1 < y := by omega
 have nq1_q : g + 1 + 1 < y := by omega
 have ll := kl.lt
 have ho2 := Only.setRow U1 y #[.int .i64 x1, .int .i64 x2, .string ⟨#[]⟩, .int .i64 0, .int .i64 0, .int .i64 0, .int .i64 0, .int .i64 0, .int .i64 0, .int .i64 0, .int .i64 0, .int .i64 0, .int .i64 0, .int .i64 0, .int .i64 0, .int .i64 0, .int .i64 0, .int .i64 0, .int .i64 0, .int .i64 0, .int .i64 0, .int .i64 0, .int .i64 0, .int .i64 0, .int .i64 0, .int .i64 0, .int .i64 0, .int .i64 0, .int .i64 0, .int .i64 0, .int .i64 0, .int .i64 0, .int .i64 0, .int .i64 0, .int .i64 0, .slice none 0 0, .bool false, .int .i64 0]
 replace kt := kt.farRow (g' := y) (by omega) #[.int .i64 x1, .int .i64 x2, .string ⟨#[]⟩, .int .i64 0, .int .i64 0, .int .i64 0, .int .i64 0, .int .i64 0, .int .i64 0, .int .i64 0, .int .i64 0, .int .i64 0, .int .i64 0, .int .i64 0, .int .i64 0, .int .i64 0, .int .i64 0, .int .i64 0, .int .i64 0, .int .i64 0, .int .i64 0, .int .i64 0, .int .i64 0, .int .i64 0, .int .i64 0, .int .i64 0, .int .i64 0, .int .i64 0, .int .i64 0, .int .i64 0, .int .i64 0, .int .i64 0, .int .i64 0, .int .i64 0, .int .i64 0, .slice none 0 0, .bool false, .int .i64 0]
 replace kr := kr.farRow (g' := y) (by omega) #[.int .i64 x1, .int .i64 x2, .string ⟨#[]⟩, .int .i64 0, .int .i64 0, .int .i64 0, .int .i64 0, .int .i64 0, .int .i64 0, .int .i64 0, .int .i64 0, .int .i64 0, .int .i64 0, .int .i64 0, .int .i64 0, .int .i64 0, .int .i64 0, .int .i64 0, .int .i64 0, .int .i64 0, .int .i64 0, .int .i64 0, .int .i64 0, .int .i64 0, .int .i64 0, .int .i64 0, .int .i64 0, .int .i64 0, .int .i64 0, .int .i64 0, .int .i64 0, .int .i64 0, .int .i64 0, .int .i64 0, .int .i64 0, .slice none 0 0, .bool false, .int .i64 0]
 replace kq := kq.farRow (g' := y) (by omega) #[.int .i64 x1, .int .i64 x2, .string ⟨#[]⟩, .int .i64 0, .int .i64 0, .int .i64 0, .int .i64 0, .int .i64 0, .int .i64 0, .int .i64 0, .int .i64 0, .int .i64 0, .int .i64 0, .int .i64 0, .int .i64 0, .int .i64 0, .int .i64 0, .int .i64 0, .int .i64 0, .int .i64 0, .int .i64 0, .int .i64 0, .int .i64 0, .int .i64 0, .int .i64 0, .int .i64 0, .int .i64 0, .int .i64 0, .int .i64 0, .int .i64 0, .int .i64 0, .int .i64 0, .int .i64 0, .int .i64 0, .int .i64 0, .slice none 0 0, .bool false, .int .i64 0]
 replace kl := kl.row #[.int .i64 x1, .int .i64 x2, .string ⟨#[]⟩, .int .i64 0, .int .i64 0, .int .i64 0, .int .i64 0, .int .i64 0, .int .i64 0, .int .i64 0, .int .i64 0, .int .i64 0, .int .i64 0, .int .i64 0, .int .i64 0, .int .i64 0, .int .i64 0, .int .i64 0, .int .i64 0, .int .i64 0, .int .i64 0, .int .i64 0, .int .i64 0, .int .i64 0, .int .i64 0, .int .i64 0, .int .i64 0, .int .i64 0, .int .i64 0, .int .i64 0, .int .i64 0, .int .i64 0, .int .i64 0, .int .i64 0, .int .i64 0, .slice none 0 0, .bool false, .int .i64 0]
 replace hb := below_setRow hb y #[.int .i64 x1, .int .i64 x2, .string ⟨#[]⟩, .int .i64 0, .int .i64 0, .int .i64 0, .int .i64 0, .int .i64 0, .int .i64 0, .int .i64 0, .int .i64 0, .int .i64 0, .int .i64 0, .int .i64 0, .int .i64 0, .int .i64 0, .int .i64 0, .int .i64 0, .int .i64 0, .int .i64 0, .int .i64 0, .int .i64 0, .int .i64 0, .int .i64 0, .int .i64 0, .int .i64 0, .int .i64 0, .int .i64 0, .int .i64 0, .int .i64 0, .int .i64 0, .int .i64 0, .int .i64 0, .int .i64 0, .int .i64 0, .slice none 0 0, .bool false, .int .i64 0] (by omega)
 have hs2 : (U1.setRow y #[.int .i64 x1, .int .i64 x2, .string ⟨#[]⟩, .int .i64 0, .int .i64 0, .int .i64 0, .int .i64 0, .int .i64 0, .int .i64 0, .int .i64 0, .int .i64 0, .int .i64 0, .int .i64 0, .int .i64 0, .int .i64 0, .int .i64 0, .int .i64 0, .int .i64 0, .int .i64 0, .int .i64 0, .int .i64 0, .int .i64 0, .int .i64 0, .int .i64 0, .int .i64 0, .int .i64 0, .int .i64 0, .int .i64 0, .int .i64 0, .int .i64 0, .int .i64 0, .int .i64 0, .int .i64 0, .int .i64 0, .int .i64 0, .slice none 0 0, .bool false, .int .i64 0]).heap.size = U1.heap.size := setRow_size _ _ _
 obtain ⟨U2, hU_⟩ : ∃ U_, (U1.setRow y #[.int .i64 x1, .int .i64 x2, .string ⟨#[]⟩, .int .i64 0, .int .i64 0, .int .i64 0, .int .i64 0, .int .i64 0, .int .i64 0, .int .i64 0, .int .i64 0, .int .i64 0, .int .i64 0, .int .i64 0, .int .i64 0, .int .i64 0, .int .i64 0, .int .i64 0, .int .i64 0, .int .i64 0, .int .i64 0, .int .i64 0, .int .i64 0, .int .i64 0, .int .i64 0, .int .i64 0, .int .i64 0, .int .i64 0, .int .i64 0, .int .i64 0, .int .i64 0, .int .i64 0, .int .i64 0, .int .i64 0, .int .i64 0, .slice none 0 0, .bool false, .int .i64 0]) = U_ := ⟨_, rfl⟩
 rw [hU_] at kt kr kq kl hb ho2 hs2 ⊢
 clear hU_
 replace hsz : g ≤ U2.heap.size := by omega
 replace lt := kt.lt
 replace lr := kr.lt
 replace lq := kq.lt
 replace ll := kl.lt
 have kl_ : Blk U2 y 131 (lgc (⟨x1, x2, ⟨#[]⟩, tb0, tb0, [], false, 0⟩ : Lg) (none, 0, 0)) := kl
 have Hs2 := Lib.hid hd2
 have Hbw := Lib.hid hb
 have Hlt : Hid (g + 1 + 1 < y) := Lib.hid nq1_q
 have Hgy : Hid (g ≤ y) := Lib.hid nb1
 clear kl hd2 hd1
 go_upto_region 4 with (fail)
 go_loopw [6, 10] (fun vv iv wr => ∃ (i : Nat) (si : ByteArray) (bi : Bool) (F : Tb), i ≤ 8 ∧ iv = .int .i64 i ∧ Hid (F.length = i) ∧ Hid (Blk wr g 9 #[.string si]) ∧ Hid (Blk wr (g + 1) 131 (lgc lg0 (none, 0, 0))) ∧ Hid (Blk wr (g + 1 + 1) 4 #[.bool bi]) ∧ Hid (Blk wr y 131 (lgc ⟨x1, x2, ⟨#[]⟩, (F ++ List.replicate (8 - i) (0, 0)), tb0, [], false, 0⟩ (none, 0, 0))) ∧ si.size ≤ 140737488351232 ∧ Hid (F ++ (tk2 (8 - i) si.data.toList bi).1 = RR.1 ∧ (tk2 (8 - i) si.data.toList bi).2 = RR.2) ∧ Hid (Below g w wr)) (fun _ iv _ => 8 - (intOf iv).toNat)
 case atStart => exact ⟨0, s2, (true && !e1 && !e2), [], by omega, rfl, Lib.hid rfl, Lib.hid kt, Lib.hid kr, Lib.hid kq, Lib.hid kl_, by omega, Lib.hid (by rw [Hs2.out]; exact ⟨by rw [List.nil_append, HRR.out], by rw [HRR.out]⟩), Hbw⟩
 case round =>
  obtain ⟨i, si, bi, F, hi, rfl, hF, zt, zr, zq, zl, hsi, hst, hbw⟩ := hrel
  by_cases hlt : i < 8
  · have hig : (i : Int) < 8 := by omega
    have hi0 : (0 : Int) ≤ (i : Int) := by omega
    rcases hx : rN si.data.toList with ⟨z1, t1, d1⟩
    rcases hy : rN t1 with ⟨z2, t2, d2⟩
    have hst2 := hst.out
    rw [show 8 - i = (8 - (i + 1)) + 1 by omega] at hst2
    simp only [tk2] at hst2
    rw [hx] at hst2
    simp only at hst2
    rw [hy] at hst2
    simp only at hst2
    have HX1 := Lib.hid hx
    have HY1 := Lib.hid hy
    have Hst := Lib.hid hst2
    clear hx hy hst2 hst
    have kt := zt.out
    have kr := zr.out
    have kq := zq.out
    have kl := zl.out
    have hb := hbw.out
    have hsz : g ≤ wr.heap.size := by have := hb.size; have := hbase; omega
    have hlt1 := Hlt.out
    have hgy := Hgy.out
    have lt := kt.lt
    have lr := kr.lt
    have lq := kq.lt
    have ll := kl.lt
    clear zt zr zq zl hbw
    go_wp2_with fail
    have hc := take_any g (g + 1 + 1) si bi wr kt kq hsi
    rw [HX1.out] at hc
    refine hc.mono ?_
    clear hc
    rintro e wc ⟨rfl, s3, zt, zq, hd3, hl3, hoc⟩
    simp only at hd3 zq
    replace kt := zt
    clear zt
    replace lt := kt.lt
    replace kr := kr.only hoc (by intro h_; rcases h_ with h_ | h_ <;> omega)
    replace lr := kr.lt
    replace kq := zq
    clear zq
    replace lq := kq.lt
    replace kl := kl.only hoc (by intro h_; rcases h_ with h_ | h_ <;> omega)
    replace ll := kl.lt
    replace hb := hb.trans (Only.below hoc hsz (fun k h_ => by rcases h_ with rfl | rfl <;> omega))
    replace hsz : g ≤ wc.heap.size := Nat.le_trans hsz hoc.2.2.2.1
    go_wp2_with fail
    have hc := take_any g (g + 1 + 1) s3 (bi && !d1) wc kt kq (by omega)
    rw [hd3, HY1.out] at hc
    refine hc.mono ?_
    clear hc
    rintro e wd ⟨rfl, s4, zt, zq, hd4, hl4, hod⟩
    simp only at hd4 zq
    replace kt := zt
    clear zt
    replace lt := kt.lt
    replace kr := kr.only hod (by intro h_; rcases h_ with h_ | h_ <;> omega)
    replace lr := kr.lt
    replace kq := zq
    clear zq
    replace lq := kq.lt
    replace kl := kl.only hod (by intro h_; rcases h_ with h_ | h_ <;> omega)
    replace ll := kl.lt
    replace hb := hb.trans (Only.below hod hsz (fun k h_ => by rcases h_ with rfl | rfl <;> omega))
    replace hsz : g ≤ wd.heap.size := Nat.le_trans hsz hod.2.2.2.1
    have hF8 : Lg8 ⟨x1, x2, ⟨#[]⟩, F ++ List.replicate (8 - i) (0, 0), tb0, [], false, 0⟩ := ⟨by have := hF.out; simp; omega, rfl⟩
    obtain ⟨a1, a2⟩ := lgc_first (s := (none, 0, 0)) hF8 i hlt
    have b1 := kl.cell (3 + i * 2)
    have b2 := kl.cell (3 + i * 2 + 1)
    have f1 := kl.frozen (3 + i * 2)
    have f2 := kl.frozen (3 + i * 2 + 1)
    rw [a1] at b1
    rw [a2] at b2
    clear a1 a2
    go_wp2_with fail
    have T1 := (kl.set_ (3 + i * 2) (.int .i64 z1)).set_ (3 + i * 2 + 1) (.int .i64 z2)
    rw [lgc_set_first hF8 i hlt] at T1
    have hset : (F ++ List.replicate (8 - i) ((0 : Int), (0 : Int))).set i ((z1 : Int), (z2 : Int)) = (F ++ [((z1 : Int), (z2 : Int))]) ++ List.replicate (8 - (i + 1)) ((0 : Int), (0 : Int)) := by
     rw [show 8 - i = (8 - (i + 1)) + 1 by omega, List.replicate_succ, List.set_append_right _ _ (by rw [hF.out]; omega), hF.out, Nat.sub_self]
     simp
    simp only at T1
    rw [hset] at T1
    have n1 : g ≠ y := by omega
    have n2 : g + 1 ≠ y := by omega
    have n3 : g + 1 + 1 ≠ y := by omega
    have T2 := (kt.far (p := ⟨y, 3 + i * 2, none⟩) n1 (.int .i64 z1)).far (p := ⟨y, 3 + i * 2 + 1, none⟩) n1 (.int .i64 z2)
    have T3 := (kr.far (p := ⟨y, 3 + i * 2, none⟩) n2 (.int .i64 z1)).far (p := ⟨y, 3 + i * 2 + 1, none⟩) n2 (.int .i64 z2)
    have T4 := (kq.far (p := ⟨y, 3 + i * 2, none⟩) n3 (.int .i64 z1)).far (p := ⟨y, 3 + i * 2 + 1, none⟩) n3 (.int .i64 z2)
    have T5 := (hb.setCell (p := ⟨y, 3 + i * 2, none⟩) hgy (.int .i64 z1)).setCell (p := ⟨y, 3 + i * 2 + 1, none⟩) hgy (.int .i64 z2)
    go_roundw
    case rel => exact ⟨i + 1, s4, _, F ++ [((z1 : Int), (z2 : Int))], by omega, by go_num, Lib.hid (by rw [List.length_append, hF.out]; rfl), Lib.hid T2, Lib.hid T3, Lib.hid T4, Lib.hid T1, by omega, Lib.hid (by rw [hd4, List.append_assoc]; exact Hst.out), Lib.hid T5⟩
    case measure => simp [intOf]; omega
  · obtain rfl : i = 8 := by omega
    rw [Nat.sub_self, List.replicate_zero, List.append_nil] at zl
    have hst2 := hst.out
    rw [Nat.sub_self] at hst2
    simp only [tk2] at hst2
    rw [List.append_nil] at hst2
    have hFR := hst2.1
    have hSR := hst2.2
    subst hFR
    have h8F : RR.1.length = 8 := hF.out
    have HSR := Lib.hid hSR
    clear hst hst2 hSR
    have kt := zt.out
    have kr := zr.out
    have kq := zq.out
    have kl := zl.out
    have hb := hbw.out
    have hsz : g ≤ wr.heap.size := by have := hb.size; have := hbase; omega
    have hlt1 := Hlt.out
    have hgy := Hgy.out
    have lt := kt.lt
    have lr := kr.lt
    have lq := kq.lt
    have ll := kl.lt
    clear zt zr zq zl hbw
    have hl8 : Lg8 ⟨x1, x2, ⟨#[]⟩, RR.1, tb0, [], false, 0⟩ := ⟨h8F, rfl⟩
    have hr1 := log_first_range kl hl8
    have ht1 := log_table_there kl hl8
    have h16 : Hid ((tc RR.1).toArray.size = 16) := Lib.hid (by simp [tc_len, h8F])
    have H8F := Lib.hid h8F
    clear h8F hF
    go_upto_region 9 with (first | (refine wpList_load_mid rfl _ (.tmp 20) rfl y 3 rfl (tc RR.1) _ hr1 Try.underlying79 rfl (by rw [tc_len, H8F.out]; exact tabS_info) ?_) | (refine wpList_store_mid rfl _ (.tmp 22) (.tmp 21) rfl y 19 (tc RR.1).toArray rfl rfl (by rw [h16.out]; exact ht1) (by rw [h16.out]; exact tabS_info) (tc_ones _) ?_))
    have T1 := Blk.setMany (w := wr) (tc RR.1) 19 wr _ kl
    rw [lgc_table_all _ _ hl8 RR.1 H8F.out] at T1
    simp only at T1
    have T2 := Blk.farMany (show g ≠ y by omega) (tc RR.1) 19 wr kt
    have T3 := Blk.farMany (show g + 1 ≠ y by omega) (tc RR.1) 19 wr kr
    have T4 := Blk.farMany (show g + 1 + 1 ≠ y by omega) (tc RR.1) 19 wr kq
    have T5 := hb.trans (Only.below (Only.setMany y (tc RR.1) 19 wr) hsz (fun k h_ => by rcases h_ with rfl; exact hgy))
    have T6 := (Only.setMany y (tc RR.1) 19 wr).2.2.2.1
    obtain ⟨V1, hV⟩ : ∃ V1, wr.setCells y 19 (tc RR.1) = V1 := ⟨_, rfl⟩
    rw [hV] at T1 T2 T3 T4 T5 T6 ⊢
    clear hV kt kr kq kl hb hr1 ht1
    have kt := T2
    have kr := T3
    have kq := T4
    have kl := T1
    have hb := T5
    replace hsz : g ≤ V1.heap.size := Nat.le_trans hsz T6
    clear T1 T2 T3 T4 T5 T6
    replace lt := kt.lt
    replace lr := kr.lt
    replace lq := kq.lt
    replace ll := kl.lt
    have c1 := kt.cell 0
    have c2 := kl.cell 2
    have f2 := kl.frozen 2
    rw [lgc_text] at c2
    go_upto_region 10 with (fail)
    clear c1 c2 f2
    have T1 := kl.set_ 2 (.string si)
    rw [lgc_set_text] at T1
    simp only at T1
    have T2 := kt.far (p := ⟨y, 2, none⟩) (show g ≠ y by omega) (.string si)
    have T3 := kr.far (p := ⟨y, 2, none⟩) (show g + 1 ≠ y by omega) (.string si)
    have T4 := kq.far (p := ⟨y, 2, none⟩) (show g + 1 + 1 ≠ y by omega) (.string si)
    have T5 := hb.setCell (p := ⟨y, 2, none⟩) hgy (.string si)
    have T6 : (V1.setCell ⟨y, 2, none⟩ (.string si)).heap.size = V1.heap.size := by simp
    obtain ⟨V2, hV⟩ : ∃ V2, V1.setCell ⟨y, 2, none⟩ (.string si) = V2 := ⟨_, rfl⟩
    rw [hV] at T1 T2 T3 T4 T5 T6 ⊢
    clear hV kt kr kq kl hb
    have kt := T2
    have kr := T3
    have kq := T4
    have kl := T1
    have hb := T5
    replace hsz : g ≤ V2.heap.size := by omega
    clear T1 T2 T3 T4 T5 T6
    replace lt := kt.lt
    replace lr := kr.lt
    replace lq := kq.lt
    replace ll := kl.lt
    have c1 := kt.cell 0
    have c2 := kq.cell 0
    have hl9 : Lg8 ⟨x1, x2, si, RR.1, RR.1, [], false, 0⟩ := ⟨H8F.out, H8F.out⟩
    clear c1 c2
    refine wp_region_held (S := fun w' => Blk w' y 131 (lgc ⟨x1, x2, si, RR.1, RR.1, [], false, 0⟩ (none, 0, 0)) ∧ w'.cell? ⟨g, 0, none⟩ = some (.string si) ∧ w'.cell? ⟨g + 1 + 1, 0, none⟩ = some (.bool bi)) (by kernel_rfl) ?_
    have hS : Blk V2.drew y 131 (lgc ⟨x1, x2, si, RR.1, RR.1, [], false, 0⟩ (none, 0, 0)) ∧ V2.drew.cell? ⟨g, 0, none⟩ = some (.string si) ∧ V2.drew.cell? ⟨g + 1 + 1, 0, none⟩ = some (.bool bi) := ⟨kl.drew, kt.drew.cell 0, kq.drew.cell 0⟩
    change wpAnyH _ _ _ _ _ _ _ _ V2.drew
    refine wpAnyH_takeD 25 (i := 0) rfl rfl (by kernel_rfl) (by kernel_rfl) (by kernel_rfl) (fun _ _ _ h => h) (.inl ⟨rfl, fun w' h' => exec_load_blk _ _ rfl y rfl _ (log_row h'.1 hl9)⟩) hS ?_
    simp only [Act.put, zA, zB, zC]
    refine tkZ 26 1 rfl rfl (.bool bi) (.inl ⟨rfl, fun w' h' => by obtain ⟨-, h1, h2⟩ := h'; go_simp⟩) hS ?_
    simp only [Act.put, zA, zB, zC]
    refine tkZ 27 2 rfl rfl (.bool bi) (.inl ⟨rfl, fun w' h' => by go_simp⟩) hS ?_
    simp only [Act.put, zA, zB, zC]
    cases bi with
    | false =>
      refine tkZ 28 3 rfl rfl (undef) (.inr ⟨rfl, rfl⟩) hS ?_
      simp only [Act.put, zA, zB, zC]
      refine tkZ 29 4 rfl rfl (undef) (.inr ⟨rfl, rfl⟩) hS ?_
      simp only [Act.put, zA, zB, zC]
      refine tkZ 30 5 rfl rfl (undef) (.inr ⟨rfl, rfl⟩) hS ?_
      simp only [Act.put, zA, zB, zC]
      refine tkZ 31 6 rfl rfl (.bool false) (.inl ⟨rfl, fun w' h' => by go_simp⟩) hS ?_
      simp only [Act.put, zA, zB, zC]
      refine wpAnyH_all (rs := [7]) (by kernel_rfl) (List.cons_ne_nil _ _) (fun i7 hi7 => ?_)
      obtain rfl := List.mem_singleton.1 hi7
      refine wpOp_store_blk rfl rfl rfl _ (.tmp 2) (.tmp 25) rfl (g + 1) (lgc ⟨x1, x2, si, RR.1, RR.1, [], false, 0⟩ (none, 0, 0)) (by kernel_rfl) (by kernel_rfl) _ _ kr.drew (by rw [lgc_size hl9]; exact log_info) (by rw [lgc_size hl9, lgc_size lg0_8]) lgc_ones ?_
      have S1 := (kl.drew).farRow (g' := g + 1) (by omega) (lgc ⟨x1, x2, si, RR.1, RR.1, [], false, 0⟩ (none, 0, 0))
      have S2 := (kt.drew).farRow (g' := g + 1) (by omega) (lgc ⟨x1, x2, si, RR.1, RR.1, [], false, 0⟩ (none, 0, 0))
      have S3 := (kq.drew).farRow (g' := g + 1) (by omega) (lgc ⟨x1, x2, si, RR.1, RR.1, [], false, 0⟩ (none, 0, 0))
      have S4 := (kr.drew).row (lgc ⟨x1, x2, si, RR.1, RR.1, [], false, 0⟩ (none, 0, 0))
      have S5 := below_setRow (hb.drew) (g + 1) (lgc ⟨x1, x2, si, RR.1, RR.1, [], false, 0⟩ (none, 0, 0)) (by omega)
      have hS := And.intro S1 (And.intro (S2.cell 0) (S3.cell 0))
      refine ⟨hS, ?_⟩
      refine tkZ 3 8 rfl rfl (.bool false) (.inl ⟨rfl, fun w' h' => by go_simp⟩) hS ?_
      simp only [Act.put, zA, zB, zC]
      refine wpAnyH_done (by kernel_rfl) ?_ _
      go_wp2_with fail
      refine row_end2 rfl rfl rfl rfl (log_row S4 hl9) ?_
      have hsi : si = ⟨RR.2.1.toArray⟩ := by
       have h1 := congrArg Prod.fst HSR.out
       apply ba_list
       simpa using h1
      have hbb : RR.2.2 = false := (congrArg Prod.snd HSR.out).symm
      have hln : RR.2.1.length = si.size := by rw [hsi]; simp [ByteArray.size]
      refine ⟨?_, hbase ▸ S5⟩
      rw [hbb, hln, ← hsi]
      simp
    | true =>
      refine tkZ 28 3 rfl rfl (.string si) (.inl ⟨rfl, fun w' h' => by obtain ⟨-, h1, h2⟩ := h'; go_simp⟩) hS ?_
      simp only [Act.put, zA, zB, zC]
      refine tkZ 29 4 rfl rfl (.int .i64 si.size) (.inl ⟨rfl, fun w' h' => by go_simp⟩) hS ?_
      simp only [Act.put, zA, zB, zC]
      refine tkZ 30 5 rfl rfl (.bool (decide ((si.size : Int) ≤ 500))) (.inl ⟨rfl, fun w' h' => by go_simp⟩) hS ?_
      simp only [Act.put, zA, zB, zC]
      refine tkZ 31 6 rfl rfl (.bool (decide ((si.size : Int) ≤ 500))) (.inl ⟨rfl, fun w' h' => by go_simp⟩) hS ?_
      simp only [Act.put, zA, zB, zC]
      refine wpAnyH_all (rs := [7]) (by kernel_rfl) (List.cons_ne_nil _ _) (fun i7 hi7 => ?_)
      obtain rfl := List.mem_singleton.1 hi7
      refine wpOp_store_blk rfl rfl rfl _ (.tmp 2) (.tmp 25) rfl (g + 1) (lgc ⟨x1, x2, si, RR.1, RR.1, [], false, 0⟩ (none, 0, 0)) (by kernel_rfl) (by kernel_rfl) _ _ kr.drew (by rw [lgc_size hl9]; exact log_info) (by rw [lgc_size hl9, lgc_size lg0_8]) lgc_ones ?_
      have S1 := (kl.drew).farRow (g' := g + 1) (by omega) (lgc ⟨x1, x2, si, RR.1, RR.1, [], false, 0⟩ (none, 0, 0))
      have S2 := (kt.drew).farRow (g' := g + 1) (by omega) (lgc ⟨x1, x2, si, RR.1, RR.1, [], false, 0⟩ (none, 0, 0))
      have S3 := (kq.drew).farRow (g' := g + 1) (by omega) (lgc ⟨x1, x2, si, RR.1, RR.1, [], false, 0⟩ (none, 0, 0))
      have S4 := (kr.drew).row (lgc ⟨x1, x2, si, RR.1, RR.1, [], false, 0⟩ (none, 0, 0))
      have S5 := below_setRow (hb.drew) (g + 1) (lgc ⟨x1, x2, si, RR.1, RR.1, [], false, 0⟩ (none, 0, 0)) (by omega)
      have hS := And.intro S1 (And.intro (S2.cell 0) (S3.cell 0))
      refine ⟨hS, ?_⟩
      refine tkZ 3 8 rfl rfl (.bool (decide ((si.size : Int) ≤ 500))) (.inl ⟨rfl, fun w' h' => by go_simp⟩) hS ?_
      simp only [Act.put, zA, zB, zC]
      refine wpAnyH_done (by kernel_rfl) ?_ _
      go_wp2_with fail
      refine row_end2 rfl rfl rfl rfl (log_row S4 hl9) ?_
      have hsi : si = ⟨RR.2.1.toArray⟩ := by
       have h1 := congrArg Prod.fst HSR.out
       apply ba_list
       simpa using h1
      have hbb : RR.2.2 = true := (congrArg Prod.snd HSR.out).symm
      have hln : RR.2.1.length = si.size := by rw [hsi]; simp [ByteArray.size]
      refine ⟨?_, hbase ▸ S5⟩
      rw [hbb, hln, ← hsi]
      have hc : decide ((si.size : Int) ≤ 500) = decide (si.size ≤ 500) := decide_eq_decide.2 (by omega)
      rw [hc, Bool.true_and]
      rfl
theorem mcut_raw (g : Nat) (v : Value) (p : ByteArray) (c n : Int) (w : World) (h : Blk w g 105 #[v, .string p, .int .i64 c]) (h0 : 0 ≤ c) (h1 : c ≤ 100000000) (h2 : 0 ≤ n) (h3 : n ≤ 100000000) :
 Calls Try.prog 65 #[.pointer (some ⟨g, 0, none⟩), .int .i64 n] w fun e w' => e = .returned (.tuple #[]) ∧ w' = w.setCell ⟨g, 2, none⟩ (.int .i64 (c + n)) := by
 have c2 := h.cell 2
 have f2 := h.frozen 2
 have hl := h.lt
 clear h
 go_enter Try.func65, Try.ntmps65
 go_wp2_with fail
 go_end0
 exact ⟨rfl, rfl⟩
theorem mput_raw (g : Nat) (v : Value) (p s : ByteArray) (c : Int) (w : World) (h : Blk w g 105 #[v, .string p, .int .i64 c]) (h1 : p.size ≤ 100000000) (h2 : s.size ≤ 100000000) :
 Calls Try.prog 66 #[.pointer (some ⟨g, 0, none⟩), .string s] w fun e w' => e = .returned (.tuple #[]) ∧ w' = w.setCell ⟨g, 1, none⟩ (.string (p ++ s)) := by
 have c1 := h.cell 1
 have f1 := h.frozen 1
 have hl := h.lt
 clear h
 go_enter Try.func66, Try.ntmps66
 go_wp2_with fail
 go_end0
 exact ⟨rfl, rfl⟩
theorem mcut_any {B g : Nat} {ob : Option Nat} {us : List U} {w : World} (n : Int) (h : Mk w B g ob us) (hl : us.length ≤ 100000000) (h2 : 0 ≤ n) (h3 : n ≤ 100000000) :
 Calls Try.prog 65 #[.pointer (some ⟨g, 0, none⟩), .int .i64 n] w fun e w' => e = .returned (.tuple #[]) ∧ Mk w' B g ob (us ++ cu n) ∧ Only w w' (fun k => k = g ∨ ob = some k) := by
 obtain ⟨o, p, c, ⟨v, hb, ho, hob⟩, hr⟩ := h
 obtain ⟨_, _, h4, h5, _, _⟩ := hr.bounds
 refine (mcut_raw g v p c n w hb h4 (by omega) h2 h3).mono ?_
 rintro e w' ⟨rfl, rfl⟩
 have hs : Only w (w.setCell ⟨g, 2, none⟩ (.int .i64 (c + n))) (fun k => k = g) := Only.setCell _ _ _ rfl
 refine ⟨rfl, ⟨o, p, c + n, ⟨v, hb.set_ 2 _, ?_, hob⟩, hr.cut h2⟩, hs.mono fun k _ h => .inl h⟩
 exact own_only ho hs fun k hk he => own_blk_ne (t := 105) ho hb (by decide) (by rw [hk, he])
theorem mput_any {B g : Nat} {ob : Option Nat} {us : List U} {w : World} (s : ByteArray) (h : Mk w B g ob us) (hl : us.length ≤ 100000000) (h3 : s.size ≤ 100000000) :
 Calls Try.prog 66 #[.pointer (some ⟨g, 0, none⟩), .string s] w fun e w' => e = .returned (.tuple #[]) ∧ Mk w' B g ob (us ++ pu s) ∧ Only w w' (fun k => k = g ∨ ob = some k) := by
 obtain ⟨o, p, c, ⟨v, hb, ho, hob⟩, hr⟩ := h
 obtain ⟨_, h4, _, _, _, _⟩ := hr.bounds
 refine (mput_raw g v p s c w hb (by omega) h3).mono ?_
 rintro e w' ⟨rfl, rfl⟩
 have hs : Only w (w.setCell ⟨g, 1, none⟩ (.string (p ++ s))) (fun k => k = g) := Only.setCell _ _ _ rfl
 refine ⟨rfl, ⟨o, p ++ s, c, ⟨v, hb.set_ 1 _, ?_, hob⟩, hr.put s⟩, hs.mono fun k _ h => .inl h⟩
 exact own_only ho hs fun k hk he => own_blk_ne (t := 105) ho hb (by decide) (by rw [hk, he])
def FlP (w : World) (B g : Nat) (ob : Option Nat) (o : List Pt) (w' : World) : Prop := ∃ ob', MkS w' B g ob' o emp 0 ∧ MFr w w' g ob ob'
theorem MFr.refl (w : World) (g : Nat) (ob : Option Nat) : MFr w w g ob ob := ⟨Only.refl _ _, .inl rfl⟩
theorem MFr.trans {w w' w'' : World} {g : Nat} {a b c : Option Nat} (h : MFr w w' g a b) (h' : MFr w' w'' g b c) : MFr w w'' g a c := by
 obtain ⟨h1, h2⟩ := h
 obtain ⟨h3, h4⟩ := h'
 have hsz := h1.2.2.2.1
 refine ⟨?_, ?_⟩
 · refine ⟨h3.1.trans h1.1, h3.2.1.trans h1.2.1, h3.2.2.1.trans h1.2.2.1, Nat.le_trans hsz h3.2.2.2.1, fun k hk hs => ?_⟩
   refine (h3.2.2.2.2 k (by omega) ?_).trans (h1.2.2.2.2 k hk hs)
   rintro (rfl | hb)
   · exact hs (.inl rfl)
   · rcases h2 with rfl | h2
     · exact hs (.inr hb)
     · have := h2 k hb; omega
 · rcases h4 with rfl | h4
   · exact h2
   · exact .inr fun k hk => Nat.le_trans hsz (h4 k hk)
theorem MFr.of_only {w w' : World} {g : Nat} {ob : Option Nat} (h : Only w w' (fun k => k = g)) : MFr w w' g ob ob := ⟨h.mono fun _ _ h => .inl h, .inl rfl⟩
theorem fl_app {w w1 : World} {B g : Nat} {ob : Option Nat} {v v1 P C : Value} {o o1 : List Pt} (hb : Blk w g 105 #[v, P, C]) (ho : OwnP w B v o) (hob : v.ownBlock = ob) (h1 : OwnP w1 B v1 o1) (h3 : w.grownBy w1 v.ownBlock)
 (h4 : v1.ownBlock = v.ownBlock ∨ v1.ownBlock = some (w.heap.size + 1)) :
 Blk (w1.setCell ⟨g, 0, none⟩ v1) g 105 #[v1, P, C] ∧ OwnP (w1.setCell ⟨g, 0, none⟩ v1) B v1 o1 ∧ MFr w (w1.setCell ⟨g, 0, none⟩ v1) g ob v1.ownBlock := by
 subst hob
 have hne : some g ≠ v.ownBlock := Ne.symm (own_blk_ne (t := 105) ho hb (by decide))
 have hb1 := hb.grown h3 hne
 have hs := Only.setSelf w1 g 0 v1
 refine ⟨hb1.set_ 0 v1, own_only h1 hs fun k hk he => own_blk_ne (t := 105) h1 hb1 (by decide) (by rw [hk, he]), ?_, ?_⟩
 · exact ((Only.of_grown h3).mono fun k _ h => .inr h).trans (hs.mono fun k _ h => .inl h)
 · rcases h4 with h4 | h4
   · exact .inl h4
   · exact .inr fun k hk => by rw [h4] at hk; injection hk with hk; omega
theorem fl_clear {w : World} {B g : Nat} {v P C : Value} {o : List Pt} (hb : Blk w g 105 #[v, P, C]) (ho : OwnP w B v o) :
 MkS ((w.setCell ⟨g, 1, none⟩ (.string ⟨#[]⟩)).setCell ⟨g, 2, none⟩ (.int .i64 0)) B g v.ownBlock o emp 0 ∧ MFr w ((w.setCell ⟨g, 1, none⟩ (.string ⟨#[]⟩)).setCell ⟨g, 2, none⟩ (.int .i64 0)) g v.ownBlock v.ownBlock := by
 have hs : Only w ((w.setCell ⟨g, 1, none⟩ (.string ⟨#[]⟩)).setCell ⟨g, 2, none⟩ (.int .i64 0)) (fun k => k = g) := (Only.setSelf _ _ _ _).trans (Only.setSelf _ _ _ _)
 exact ⟨⟨v, (hb.set_ 1 _).set_ 2 _, own_only ho hs fun k hk he => own_blk_ne (t := 105) ho hb (by decide) (by rw [hk, he]), rfl⟩, MFr.of_only hs⟩
theorem flush_none (g : Nat) (v : Value) (o : List Pt) (B : Nat) (ob : Option Nat) (c : Int) (w : World) (hb : Blk w g 105 #[v, .string ⟨#[]⟩, .int .i64 c]) (ho : OwnP w B v o) (hob : v.ownBlock = ob) (hc : c ≤ 0) :
 Calls Try.prog 99 #[.pointer (some ⟨g, 0, none⟩)] w fun e w' => e = .returned (.tuple #[]) ∧ FlP w B g ob o w' := by
 have c1 := hb.cell 1
 have f1 := hb.frozen 1
 have c2 := hb.cell 2
 have f2 := hb.frozen 2
 have hl := hb.lt
 have Hb := Lib.hid hb
 have Ho := Lib.hid ho
 have Hob := Lib.hid hob
 clear hb ho hob
 go_enter Try.func99, Try.ntmps99
 go_wp2_with fail
 go_end0
 have hs : Only w ((w.setCell ⟨g, 1, none⟩ (.string ⟨#[]⟩)).setCell ⟨g, 2, none⟩ (.int .i64 0)) (fun k => k = g) := (Only.setSelf _ _ _ _).trans (Only.setSelf _ _ _ _)
 refine ⟨rfl, ob, ⟨v, (Hb.out.set_ 1 _).set_ 2 _, ?_, Hob.out⟩, hs.mono fun k _ h => .inl h, .inl rfl⟩
 exact own_only Ho.out hs fun k hk he => own_blk_ne (t := 105) Ho.out Hb.out (by decide) (by rw [hk, he])
theorem flush_put (g : Nat) (v : Value) (o : List Pt) (B : Nat) (ob : Option Nat) (p : ByteArray) (c : Int) (w : World) (hb : Blk w g 105 #[v, .string p, .int .i64 c]) (ho : OwnP w B v o) (hob : v.ownBlock = ob) (hc : c ≤ 0)
 (hp : p.toList.isEmpty = false) (hlen0 : o.length ≤ 100000000) (hB0 : B ≤ w.heap.size) :
 Calls Try.prog 99 #[.pointer (some ⟨g, 0, none⟩)] w fun e w' => e = .returned (.tuple #[]) ∧ FlP w B g ob (o ++ [(2, 0, p)]) w' := by
 have c0 := hb.cell 0
 have f0 := hb.frozen 0
 have c1 := hb.cell 1
 have f1 := hb.frozen 1
 have c2 := hb.cell 2
 have f2 := hb.frozen 2
 have hl := hb.lt
 obtain ⟨A, cp, hv⟩ := ho.form
 subst hv
 have Hne0 := Lib.hid (Ne.symm (own_blk_ne (t := 105) ho hb (by decide)))
 have Hb0 := Lib.hid hb
 have Ho0 := Lib.hid ho
 have Hob := Lib.hid hob
 clear hb ho hob
 go_enter Try.func99, Try.ntmps99
 go_wp2_with fail
 go_region_law (first | (refine step_app_drew _ rfl (.tmp 11) (.tmp 17) rfl B _ o (by simp [Act.eval, Act.put]) Ho0.out 2 0 p 1 (by simp [Act.eval, Act.put]) (by omega) hB0 ?_; intro v1 w1 g1 g2 g3 g4; obtain ⟨A1, c1', rfl⟩ := g1.form_ (n := o.length + 1) (by simp); have hb1 := Blk.grown Hb0.out g3 Hne0.out; have d0 := hb1.cell 0; have d1 := hb1.cell 1; have d2 := hb1.cell 2; have e0 := hb1.frozen 0; have e1 := hb1.frozen 1; have e2 := hb1.frozen 2; have l1 := hb1.lt))
 all_goals
  have Hb1 := Lib.hid (fl_app Hb0.out Ho0.out Hob.out g1 g3 g4)
  clear hb1 g1 g2 g3 g4
  go_wp2_with fail
  go_end0
  refine ⟨rfl, _, (fl_clear Hb1.out.1 Hb1.out.2.1).1, Hb1.out.2.2.trans (fl_clear Hb1.out.1 Hb1.out.2.1).2⟩
theorem flush_cut (g : Nat) (v : Value) (o : List Pt) (B : Nat) (ob : Option Nat) (c : Int) (w : World) (hb : Blk w g 105 #[v, .string ⟨#[]⟩, .int .i64 c]) (ho : OwnP w B v o) (hob : v.ownBlock = ob) (hc : 0 < c)
 (hlen0 : o.length ≤ 100000000) (hB0 : B ≤ w.heap.size) :
 Calls Try.prog 99 #[.pointer (some ⟨g, 0, none⟩)] w fun e w' => e = .returned (.tuple #[]) ∧ FlP w B g ob (o ++ [(3, c, ⟨#[]⟩)]) w' := by
 have c0 := hb.cell 0
 have f0 := hb.frozen 0
 have c1 := hb.cell 1
 have f1 := hb.frozen 1
 have c2 := hb.cell 2
 have f2 := hb.frozen 2
 have hl := hb.lt
 obtain ⟨A, cp, hv⟩ := ho.form
 subst hv
 have Hne0 := Lib.hid (Ne.symm (own_blk_ne (t := 105) ho hb (by decide)))
 have Hb0 := Lib.hid hb
 have Ho0 := Lib.hid ho
 have Hob := Lib.hid hob
 clear hb ho hob
 go_enter Try.func99, Try.ntmps99
 go_wp2_with fail
 go_region_law (first | (refine step_app_drew _ rfl (.tmp 30) (.tmp 36) rfl B _ o (by simp [Act.eval, Act.put]) Ho0.out 3 c ⟨#[]⟩ 1 (by simp [Act.eval, Act.put]) (by omega) hB0 ?_; intro v1 w1 g1 g2 g3 g4; obtain ⟨A1, c1', rfl⟩ := g1.form_ (n := o.length + 1) (by simp); have hb1 := Blk.grown Hb0.out g3 Hne0.out; have d0 := hb1.cell 0; have d1 := hb1.cell 1; have d2 := hb1.cell 2; have e0 := hb1.frozen 0; have e1 := hb1.frozen 1; have e2 := hb1.frozen 2; have l1 := hb1.lt))
 all_goals
  have Hb1 := Lib.hid (fl_app Hb0.out Ho0.out Hob.out g1 g3 g4)
  clear hb1 g1 g2 g3 g4
  go_wp2_with fail
  go_end0
  refine ⟨rfl, _, (fl_clear Hb1.out.1 Hb1.out.2.1).1, Hb1.out.2.2.trans (fl_clear Hb1.out.1 Hb1.out.2.1).2⟩
theorem flush_both (g : Nat) (v : Value) (o : List Pt) (B : Nat) (ob : Option Nat) (p : ByteArray) (c : Int) (w : World) (hb : Blk w g 105 #[v, .string p, .int .i64 c]) (ho : OwnP w B v o) (hob : v.ownBlock = ob) (hc : 0 < c)
 (hp : p.toList.isEmpty = false) (hlen0 : o.length ≤ 99999999) (hB0 : B ≤ w.heap.size) :
 Calls Try.prog 99 #[.pointer (some ⟨g, 0, none⟩)] w fun e w' => e = .returned (.tuple #[]) ∧ FlP w B g ob (o ++ [(2, 0, p)] ++ [(3, c, ⟨#[]⟩)]) w' := by
 have c0 := hb.cell 0
 have f0 := hb.frozen 0
 have c1 := hb.cell 1
 have f1 := hb.frozen 1
 have c2 := hb.cell 2
 have f2 := hb.frozen 2
 have hl := hb.lt
 obtain ⟨A, cp, hv⟩ := ho.form
 subst hv
 have Hne0 := Lib.hid (Ne.symm (own_blk_ne (t := 105) ho hb (by decide)))
 have Hb0 := Lib.hid hb
 have Ho0 := Lib.hid ho
 have Hob := Lib.hid hob
 clear hb ho hob
 go_enter Try.func99, Try.ntmps99
 go_wp2_with fail
 go_region_law (first | (refine step_app_drew _ rfl (.tmp 11) (.tmp 17) rfl B _ o (by simp [Act.eval, Act.put]) Ho0.out 2 0 p 1 (by simp [Act.eval, Act.put]) (by omega) hB0 ?_; intro v1 w1 g1 g2 g3 g4; obtain ⟨A1, c1', rfl⟩ := g1.form_ (n := o.length + 1) (by simp); have hb1 := Blk.grown Hb0.out g3 Hne0.out; have d0 := hb1.cell 0; have d1 := hb1.cell 1; have d2 := hb1.cell 2; have e0 := hb1.frozen 0; have e1 := hb1.frozen 1; have e2 := hb1.frozen 2; have l1 := hb1.lt))
 all_goals
  have Hb1 := Lib.hid (fl_app Hb0.out Ho0.out Hob.out g1 g3 g4)
  have hB1 : B ≤ w1.heap.size := by have := g2.size; omega
  clear hb1 g1 g2 g3 g4 c0 c1 c2 f0 f1 f2 hl
  go_wp2_with fail
  have hsz1 : (w1.setCell ⟨g, 0, none⟩ (.slice A1 (o.length + 1) c1')).heap.size = w1.heap.size := by simp [World.setCell]
  rw [← hsz1] at hB1
  clear hsz1 d0 d1 d2 e0 e1 e2 l1
  generalize w1.setCell ⟨g, 0, none⟩ (.slice A1 (o.length + 1) c1') = W1 at *
  have hb := Hb1.out.1
  have ho := Hb1.out.2.1
  have c0 := hb.cell 0
  have f0 := hb.frozen 0
  have c1 := hb.cell 1
  have f1 := hb.frozen 1
  have c2 := hb.cell 2
  have f2 := hb.frozen 2
  have hl := hb.lt
  have hlen1 : (o ++ [((2, 0, p) : Pt)]).length ≤ 100000000 := by rw [List.length_append, List.length_singleton]; omega
  have Hne1 := Lib.hid (Ne.symm (own_blk_ne (t := 105) ho hb (by decide)))
  have Hbb1 := Lib.hid hb
  have Ho1 := Lib.hid ho
  clear hb ho
  go_region_law (first | (refine step_app_drew _ rfl (.tmp 30) (.tmp 36) rfl B _ (o ++ [((2, 0, p) : Pt)]) (by simp [Act.eval, Act.put]) Ho1.out 3 c ⟨#[]⟩ 1 (by simp [Act.eval, Act.put]) hlen1 hB1 ?_; intro v1 w1 g1 g2 g3 g4; obtain ⟨A2, c2', rfl⟩ := g1.form_ (n := o.length + 2) (by simp); have hb1 := Blk.grown Hbb1.out g3 Hne1.out; have d0 := hb1.cell 0; have d1 := hb1.cell 1; have d2 := hb1.cell 2; have e0 := hb1.frozen 0; have e1 := hb1.frozen 1; have e2 := hb1.frozen 2; have l1 := hb1.lt))
  all_goals
   have Hb2 := Lib.hid (fl_app Hbb1.out Ho1.out rfl g1 g3 g4)
   clear hb1 g1 g2 g3 g4
   go_wp2_with fail
   go_end0
   refine ⟨rfl, _, (fl_clear Hb2.out.1 Hb2.out.2.1).1, Hb1.out.2.2.trans (Hb2.out.2.2.trans (fl_clear Hb2.out.1 Hb2.out.2.1).2)⟩
end Go.Proofs.Ytokngfinnieccaa
