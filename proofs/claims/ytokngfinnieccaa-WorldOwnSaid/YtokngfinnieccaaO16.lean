/- Contract of serve.Submit. -/
import Derived.Test.YtokngfinnieccaaO15
namespace Go.Proofs.Ytokngfinnieccaa
open Go.ChangeShapes Go.WideShapes Go.RowKit
set_option linter.unusedVariables false
set_option linter.unusedSimpArgs false
set_option maxRecDepth 100000
set_option maxHeartbeats 4000000
def subT (s : Sh) (x : Int) : Int × Int := s.log.table.getD x.toNat (0, 0)
theorem ShB.tab0 {w : World} {B q g : Nat} {s : Sh} {m : Option Mv} (h : ShB w B q s m g) (x : Int) : 0 ≤ (subT s x).1 := by
 obtain ⟨b, tN, h⟩ := h
 have hl := h.inv.log
 unfold subT
 have hk := hl.tab_ok s.log.revs.length (Nat.le_refl _)
 rw [List.take_length] at hk
 have ht : s.log.table = tblF s.log.base s.log.first s.log.revs := by rw [hl.tb, hl.eb, hl.ef]
 rw [← ht] at hk
 rw [List.getD_eq_getElem?_getD]
 by_cases hx : x.toNat < s.log.table.length
 · rw [List.getElem?_eq_getElem hx]
   exact (hk _ (List.getElem_mem hx)).1.1
 · rw [List.getElem?_eq_none (by omega)]
   exact Int.le_refl _
def subE (s : Sh) (bs who sq : Int) (d : List Pt) : Int :=
 if who < 0 ∨ 7 < who ∨ sq < 0 ∨ 2147483647 < sq then 1 else if chk d ≠ 0 then chk d else if 0 < sq ∧ sq = (subT s who).1 then 0 else if sq ≤ (subT s who).1 then 10
 else if thE s.log bs ≠ 0 then thE s.log bs else if nI (units d) ≠ (txt s.log.text s.log.revs (bs - s.log.base).toNat).size then 4
 else if mtE d (s.log.revs.drop (bs - s.log.base).toNat) ≠ 0 then mtE d (s.log.revs.drop (bs - s.log.base).toNat)
 else nextE s.log s.text.size (who, sq, mtL d (s.log.revs.drop (bs - s.log.base).toNat))
structure SubP (w w' : World) (F : Nat → Prop) (q : Nat) (m : Option Mv) (g b : Nat) (tN : List (Nat × Nat)) (NN NX EE EX : Int) (SX : Sh) : Prop where
 mem : ShG w' (grow F w w') q SX m g b tN
 bel : Only w w' F
 n : NN = NX
 e : EE = EX
def subAgain (s : Sh) (who sq : Int) (d : List Pt) : Prop := ¬ (who < 0 ∨ 7 < who ∨ sq < 0 ∨ 2147483647 < sq) ∧ chk d = 0 ∧ 0 < sq ∧ sq = (subT s who).1
instance (s : Sh) (who sq : Int) (d : List Pt) : Decidable (subAgain s who sq d) := by unfold subAgain; infer_instance
def subN (s : Sh) (bs who sq : Int) (d : List Pt) : Int := if subE s bs who sq d ≠ 0 then 0 else if subAgain s who sq d then (subT s who).2 else s.log.base + (s.log.revs.length + 1 : Nat)
def subS (s : Sh) (m : Option Mv) (bs who sq : Int) (d : List Pt) : Sh := if subE s bs who sq d ≠ 0 ∨ subAgain s who sq d then s else addG s m (who, sq, mtL d (s.log.revs.drop (bs - s.log.base).toNat))
theorem sub_who (q : Nat) (s : Sh) (m : Option Mv) (F : Nat → Prop) (g b : Nat) (tN : List (Nat × Nat)) (bs sq : Int) (who : Int) (d : List Pt) (A : Option Addr) (n c : Nat) (w : World) (h : ShG w F q s m g b tN) (hd : RdP w w.heap.size A n c d) (hw : who < 0 ∨ 7 < who) :
 Calls Try.prog 51 #[.pointer (some ⟨q, 0, none⟩), .agg #[.int .i64 bs, .int .i64 who, .int .i64 sq, .slice A n c]] w fun e w' => e = .returned (.tuple #[.int .i64 0, .int .i64 1]) ∧ ShG w' (grow F w w') q (s) m g b tN ∧ Only w w' F := by
 have HW : Hid (Only w w F) := Lib.hid (Only.refl _ _)
 have HM := Lib.hid h
 have HD := Lib.hid hd
 have kp := Blk.new w 82 #[.int .i64 bs, .int .i64 who, .int .i64 sq, .slice A n c]
 have hal := (Below.refl w.heap.size w).alloc (Nat.le_refl _) (.cells #[.int .i64 bs, .int .i64 who, .int .i64 sq, .slice A n c] 82)
 obtain ⟨gz, hg⟩ : ∃ gz, w.heap.size = gz := ⟨_, rfl⟩
 have Hg0 := Lib.hid hg
 clear h hd hg
 go_enter Try.func51, Try.ntmps51
 go_upto_region 1 with (fail)
 obtain ⟨u1, hu1⟩ : ∃ u1, w.alloc (.cells #[.int .i64 bs, .int .i64 who, .int .i64 sq, .slice A n c] 82) = u1 := ⟨_, rfl⟩
 rw [hu1] at kp hal ⊢
 rw [Hg0.out] at kp ⊢
 have HK := Lib.hid kp
 clear kp hu1
 replace HM := Lib.hid (HM.out.below hal)
 replace HD := Lib.hid (RdP.step HD.out hal)
 have HW_ := Lib.hid (HW.out.trans (Only.of_below hal))
 clear HW
 have HW := HW_
 clear HW_ hal
 have k0 := HK.out.cell 0
 have k1 := HK.out.cell 1
 have k2 := HK.out.cell 2
 have k3 := HK.out.cell 3
 have lk := HK.out.lt
 have hc_ := slastno_B q s m 0 g who u1 (ShB.of (B := 0) HM.out (fun _ _ => Nat.zero_le _)) hw
 have Hc_ := Lib.hid hc_
 clear hc_
 go_wp2_with fail
 refine Hc_.out.mono ?_
 rintro e w1 ⟨rfl, hb1⟩
 clear Hc_
 replace HM := Lib.hid (HM.out.below hb1)
 replace HD := Lib.hid (RdP.step HD.out hb1)
 replace HK := Lib.hid (HK.out.below hb1 HK.out.lt)
 have HW_ := Lib.hid (HW.out.trans (Only.of_below hb1))
 clear HW
 have HW := HW_
 clear HW_ hb1
 clear k0 k1 k2 k3 lk
 have k0 := HK.out.cell 0
 have k1 := HK.out.cell 1
 have k2 := HK.out.cell 2
 have k3 := HK.out.cell 3
 have lk := HK.out.lt
 have hal := (Below.refl w1.heap.size w1).alloc (Nat.le_refl _) (.cells #[.int .i64 0, .int .i64 0] 74)
 go_wp2_with fail
 go_ret2
 have HM2 := HM.out.below hal
 exact ⟨rfl, ⟨HM2.mem.grow, HM2.inv⟩, HW.out.trans (Only.of_below hal)⟩
theorem sub_neg (q : Nat) (s : Sh) (m : Option Mv) (F : Nat → Prop) (g b : Nat) (tN : List (Nat × Nat)) (bs sq : Int) (x : Nat) (T1 T2 : Int) (d : List Pt) (A : Option Addr) (n c : Nat) (w : World) (h : ShG w F q s m g b tN) (hd : RdP w w.heap.size A n c d) (hx8 : x < 8) (hT : subT s (x : Int) = (T1, T2)) (h1 : sq < 0) :
 Calls Try.prog 51 #[.pointer (some ⟨q, 0, none⟩), .agg #[.int .i64 bs, .int .i64 x, .int .i64 sq, .slice A n c]] w fun e w' => e = .returned (.tuple #[.int .i64 0, .int .i64 1]) ∧ ShG w' (grow F w w') q (s) m g b tN ∧ Only w w' F := by
 have HW : Hid (Only w w F) := Lib.hid (Only.refl _ _)
 have HM := Lib.hid h
 have HD := Lib.hid hd
 have kp := Blk.new w 82 #[.int .i64 bs, .int .i64 x, .int .i64 sq, .slice A n c]
 have hal := (Below.refl w.heap.size w).alloc (Nat.le_refl _) (.cells #[.int .i64 bs, .int .i64 x, .int .i64 sq, .slice A n c] 82)
 obtain ⟨gz, hg⟩ : ∃ gz, w.heap.size = gz := ⟨_, rfl⟩
 have Hg0 := Lib.hid hg
 clear h hd hg
 go_enter Try.func51, Try.ntmps51
 go_upto_region 1 with (fail)
 obtain ⟨u1, hu1⟩ : ∃ u1, w.alloc (.cells #[.int .i64 bs, .int .i64 x, .int .i64 sq, .slice A n c] 82) = u1 := ⟨_, rfl⟩
 rw [hu1] at kp hal ⊢
 rw [Hg0.out] at kp ⊢
 have HK := Lib.hid kp
 clear kp hu1
 replace HM := Lib.hid (HM.out.below hal)
 replace HD := Lib.hid (RdP.step HD.out hal)
 have HW_ := Lib.hid (HW.out.trans (Only.of_below hal))
 clear HW
 have HW := HW_
 clear HW_ hal
 have k0 := HK.out.cell 0
 have k1 := HK.out.cell 1
 have k2 := HK.out.cell 2
 have k3 := HK.out.cell 3
 have lk := HK.out.lt
 have hc_ := slast_B q s m 0 g x u1 (ShB.of (B := 0) HM.out (fun _ _ => Nat.zero_le _)) hx8
 rw [show s.log.table.getD x (0, 0) = subT s (x : Int) from rfl, hT] at hc_
 have Hc_ := Lib.hid hc_
 clear hc_
 go_wp2_with fail
 refine Hc_.out.mono ?_
 rintro e w1 ⟨rfl, hb1⟩
 clear Hc_
 replace HM := Lib.hid (HM.out.below hb1)
 replace HD := Lib.hid (RdP.step HD.out hb1)
 replace HK := Lib.hid (HK.out.below hb1 HK.out.lt)
 have HW_ := Lib.hid (HW.out.trans (Only.of_below hb1))
 clear HW
 have HW := HW_
 clear HW_ hb1
 clear k0 k1 k2 k3 lk
 have k0 := HK.out.cell 0
 have k1 := HK.out.cell 1
 have k2 := HK.out.cell 2
 have k3 := HK.out.cell 3
 have lk := HK.out.lt
 go_upto_region 2 with (fail)
 have hal := (Below.refl w1.heap.size w1).alloc (Nat.le_refl _) (.cells #[.int .i64 T1, .int .i64 T2] 74)
 have kq := Blk.new w1 74 #[.int .i64 T1, .int .i64 T2]
 obtain ⟨u2, hu2⟩ : ∃ u2, w1.alloc (.cells #[.int .i64 T1, .int .i64 T2] 74) = u2 := ⟨_, rfl⟩
 rw [hu2] at kq hal ⊢
 obtain ⟨gs, hgs⟩ : ∃ gs, w1.heap.size = gs := ⟨_, rfl⟩
 rw [hgs] at kq ⊢
 have HQ := Lib.hid kq
 clear kq hu2 hgs
 replace HM := Lib.hid (HM.out.below hal)
 replace HD := Lib.hid (RdP.step HD.out hal)
 replace HK := Lib.hid (HK.out.below hal HK.out.lt)
 have HW_ := Lib.hid (HW.out.trans (Only.of_below hal))
 clear HW
 have HW := HW_
 clear HW_ hal
 clear k0 k1 k2 k3 lk
 have k0 := HK.out.cell 0
 have k1 := HK.out.cell 1
 have k2 := HK.out.cell 2
 have k3 := HK.out.cell 3
 have lk := HK.out.lt
 try clear q0 q1 lq
 have q0 := HQ.out.cell 0
 have q1 := HQ.out.cell 1
 have lq := HQ.out.lt
 have hf1 : decide (sq < 0) = true := decide_eq_true h1
 go_wp2_with fail
 go_ret2
 exact ⟨rfl, ⟨HM.out.mem.grow, HM.out.inv⟩, HW.out⟩
theorem sub_big (q : Nat) (s : Sh) (m : Option Mv) (F : Nat → Prop) (g b : Nat) (tN : List (Nat × Nat)) (bs sq : Int) (x : Nat) (T1 T2 : Int) (d : List Pt) (A : Option Addr) (n c : Nat) (w : World) (h : ShG w F q s m g b tN) (hd : RdP w w.heap.size A n c d) (hx8 : x < 8) (hT : subT s (x : Int) = (T1, T2)) (h1 : 2147483647 < sq) :
 Calls Try.prog 51 #[.pointer (some ⟨q, 0, none⟩), .agg #[.int .i64 bs, .int .i64 x, .int .i64 sq, .slice A n c]] w fun e w' => e = .returned (.tuple #[.int .i64 0, .int .i64 1]) ∧ ShG w' (grow F w w') q (s) m g b tN ∧ Only w w' F := by
 have HW : Hid (Only w w F) := Lib.hid (Only.refl _ _)
 have HM := Lib.hid h
 have HD := Lib.hid hd
 have kp := Blk.new w 82 #[.int .i64 bs, .int .i64 x, .int .i64 sq, .slice A n c]
 have hal := (Below.refl w.heap.size w).alloc (Nat.le_refl _) (.cells #[.int .i64 bs, .int .i64 x, .int .i64 sq, .slice A n c] 82)
 obtain ⟨gz, hg⟩ : ∃ gz, w.heap.size = gz := ⟨_, rfl⟩
 have Hg0 := Lib.hid hg
 clear h hd hg
 go_enter Try.func51, Try.ntmps51
 go_upto_region 1 with (fail)
 obtain ⟨u1, hu1⟩ : ∃ u1, w.alloc (.cells #[.int .i64 bs, .int .i64 x, .int .i64 sq, .slice A n c] 82) = u1 := ⟨_, rfl⟩
 rw [hu1] at kp hal ⊢
 rw [Hg0.out] at kp ⊢
 have HK := Lib.hid kp
 clear kp hu1
 replace HM := Lib.hid (HM.out.below hal)
 replace HD := Lib.hid (RdP.step HD.out hal)
 have HW_ := Lib.hid (HW.out.trans (Only.of_below hal))
 clear HW
 have HW := HW_
 clear HW_ hal
 have k0 := HK.out.cell 0
 have k1 := HK.out.cell 1
 have k2 := HK.out.cell 2
 have k3 := HK.out.cell 3
 have lk := HK.out.lt
 have hc_ := slast_B q s m 0 g x u1 (ShB.of (B := 0) HM.out (fun _ _ => Nat.zero_le _)) hx8
 rw [show s.log.table.getD x (0, 0) = subT s (x : Int) from rfl, hT] at hc_
 have Hc_ := Lib.hid hc_
 clear hc_
 go_wp2_with fail
 refine Hc_.out.mono ?_
 rintro e w1 ⟨rfl, hb1⟩
 clear Hc_
 replace HM := Lib.hid (HM.out.below hb1)
 replace HD := Lib.hid (RdP.step HD.out hb1)
 replace HK := Lib.hid (HK.out.below hb1 HK.out.lt)
 have HW_ := Lib.hid (HW.out.trans (Only.of_below hb1))
 clear HW
 have HW := HW_
 clear HW_ hb1
 clear k0 k1 k2 k3 lk
 have k0 := HK.out.cell 0
 have k1 := HK.out.cell 1
 have k2 := HK.out.cell 2
 have k3 := HK.out.cell 3
 have lk := HK.out.lt
 go_upto_region 2 with (fail)
 have hal := (Below.refl w1.heap.size w1).alloc (Nat.le_refl _) (.cells #[.int .i64 T1, .int .i64 T2] 74)
 have kq := Blk.new w1 74 #[.int .i64 T1, .int .i64 T2]
 obtain ⟨u2, hu2⟩ : ∃ u2, w1.alloc (.cells #[.int .i64 T1, .int .i64 T2] 74) = u2 := ⟨_, rfl⟩
 rw [hu2] at kq hal ⊢
 obtain ⟨gs, hgs⟩ : ∃ gs, w1.heap.size = gs := ⟨_, rfl⟩
 rw [hgs] at kq ⊢
 have HQ := Lib.hid kq
 clear kq hu2 hgs
 replace HM := Lib.hid (HM.out.below hal)
 replace HD := Lib.hid (RdP.step HD.out hal)
 replace HK := Lib.hid (HK.out.below hal HK.out.lt)
 have HW_ := Lib.hid (HW.out.trans (Only.of_below hal))
 clear HW
 have HW := HW_
 clear HW_ hal
 clear k0 k1 k2 k3 lk
 have k0 := HK.out.cell 0
 have k1 := HK.out.cell 1
 have k2 := HK.out.cell 2
 have k3 := HK.out.cell 3
 have lk := HK.out.lt
 try clear q0 q1 lq
 have q0 := HQ.out.cell 0
 have q1 := HQ.out.cell 1
 have lq := HQ.out.lt
 have hf1 : decide (sq < 0) = false := decide_eq_false (by omega)
 have hf2 : decide (2147483647 < sq) = true := decide_eq_true h1
 go_wp2_with fail
 go_ret2
 exact ⟨rfl, ⟨HM.out.mem.grow, HM.out.inv⟩, HW.out⟩
theorem sub_chk (q : Nat) (s : Sh) (m : Option Mv) (F : Nat → Prop) (g b : Nat) (tN : List (Nat × Nat)) (bs sq : Int) (x : Nat) (T1 T2 : Int) (d : List Pt) (A : Option Addr) (n c : Nat) (w : World) (h : ShG w F q s m g b tN) (hd : RdP w w.heap.size A n c d) (hx8 : x < 8) (hT : subT s (x : Int) = (T1, T2)) (h0 : 0 ≤ sq) (h1 : sq ≤ 2147483647) (hc : chk d ≠ 0) :
 Calls Try.prog 51 #[.pointer (some ⟨q, 0, none⟩), .agg #[.int .i64 bs, .int .i64 x, .int .i64 sq, .slice A n c]] w fun e w' => e = .returned (.tuple #[.int .i64 0, .int .i64 (chk d)]) ∧ ShG w' (grow F w w') q (s) m g b tN ∧ Only w w' F := by
 have HW : Hid (Only w w F) := Lib.hid (Only.refl _ _)
 have HM := Lib.hid h
 have HD := Lib.hid hd
 have kp := Blk.new w 82 #[.int .i64 bs, .int .i64 x, .int .i64 sq, .slice A n c]
 have hal := (Below.refl w.heap.size w).alloc (Nat.le_refl _) (.cells #[.int .i64 bs, .int .i64 x, .int .i64 sq, .slice A n c] 82)
 obtain ⟨gz, hg⟩ : ∃ gz, w.heap.size = gz := ⟨_, rfl⟩
 have Hg0 := Lib.hid hg
 clear h hd hg
 go_enter Try.func51, Try.ntmps51
 go_upto_region 1 with (fail)
 obtain ⟨u1, hu1⟩ : ∃ u1, w.alloc (.cells #[.int .i64 bs, .int .i64 x, .int .i64 sq, .slice A n c] 82) = u1 := ⟨_, rfl⟩
 rw [hu1] at kp hal ⊢
 rw [Hg0.out] at kp ⊢
 have HK := Lib.hid kp
 clear kp hu1
 replace HM := Lib.hid (HM.out.below hal)
 replace HD := Lib.hid (RdP.step HD.out hal)
 have HW_ := Lib.hid (HW.out.trans (Only.of_below hal))
 clear HW
 have HW := HW_
 clear HW_ hal
 have k0 := HK.out.cell 0
 have k1 := HK.out.cell 1
 have k2 := HK.out.cell 2
 have k3 := HK.out.cell 3
 have lk := HK.out.lt
 have hc_ := slast_B q s m 0 g x u1 (ShB.of (B := 0) HM.out (fun _ _ => Nat.zero_le _)) hx8
 rw [show s.log.table.getD x (0, 0) = subT s (x : Int) from rfl, hT] at hc_
 have Hc_ := Lib.hid hc_
 clear hc_
 go_wp2_with fail
 refine Hc_.out.mono ?_
 rintro e w1 ⟨rfl, hb1⟩
 clear Hc_
 replace HM := Lib.hid (HM.out.below hb1)
 replace HD := Lib.hid (RdP.step HD.out hb1)
 replace HK := Lib.hid (HK.out.below hb1 HK.out.lt)
 have HW_ := Lib.hid (HW.out.trans (Only.of_below hb1))
 clear HW
 have HW := HW_
 clear HW_ hb1
 clear k0 k1 k2 k3 lk
 have k0 := HK.out.cell 0
 have k1 := HK.out.cell 1
 have k2 := HK.out.cell 2
 have k3 := HK.out.cell 3
 have lk := HK.out.lt
 go_upto_region 2 with (fail)
 have hal := (Below.refl w1.heap.size w1).alloc (Nat.le_refl _) (.cells #[.int .i64 T1, .int .i64 T2] 74)
 have kq := Blk.new w1 74 #[.int .i64 T1, .int .i64 T2]
 obtain ⟨u2, hu2⟩ : ∃ u2, w1.alloc (.cells #[.int .i64 T1, .int .i64 T2] 74) = u2 := ⟨_, rfl⟩
 rw [hu2] at kq hal ⊢
 obtain ⟨gs, hgs⟩ : ∃ gs, w1.heap.size = gs := ⟨_, rfl⟩
 rw [hgs] at kq ⊢
 have HQ := Lib.hid kq
 clear kq hu2 hgs
 replace HM := Lib.hid (HM.out.below hal)
 replace HD := Lib.hid (RdP.step HD.out hal)
 replace HK := Lib.hid (HK.out.below hal HK.out.lt)
 have HW_ := Lib.hid (HW.out.trans (Only.of_below hal))
 clear HW
 have HW := HW_
 clear HW_ hal
 clear k0 k1 k2 k3 lk
 have k0 := HK.out.cell 0
 have k1 := HK.out.cell 1
 have k2 := HK.out.cell 2
 have k3 := HK.out.cell 3
 have lk := HK.out.lt
 try clear q0 q1 lq
 have q0 := HQ.out.cell 0
 have q1 := HQ.out.cell 1
 have lq := HQ.out.lt
 have hf1 : decide (sq < 0) = false := decide_eq_false (by omega)
 have hf2 : decide (2147483647 < sq) = false := decide_eq_false (by omega)
 have hce : (chk d != 0) = true := by simpa using hc
 have Hce := Lib.hid hc
 clear hc
 have hc_ := psizes_err d A n c _ u2 HD.out (Nat.le_refl _) Hce.out
 have Hc_ := Lib.hid hc_
 clear hc_
 go_wp2_with fail
 refine Hc_.out.mono ?_
 rintro e w2 ⟨rfl, hb2⟩
 clear Hc_
 replace HM := Lib.hid (HM.out.below hb2)
 replace HD := Lib.hid (RdP.step HD.out hb2)
 replace HK := Lib.hid (HK.out.below hb2 HK.out.lt)
 replace HQ := Lib.hid (HQ.out.below hb2 HQ.out.lt)
 have HW_ := Lib.hid (HW.out.trans (Only.of_below hb2))
 clear HW
 have HW := HW_
 clear HW_ hb2
 clear k0 k1 k2 k3 lk
 have k0 := HK.out.cell 0
 have k1 := HK.out.cell 1
 have k2 := HK.out.cell 2
 have k3 := HK.out.cell 3
 have lk := HK.out.lt
 go_wp2_with fail
 go_ret2
 exact ⟨rfl, ⟨HM.out.mem.grow, HM.out.inv⟩, HW.out⟩
theorem sub_again (q : Nat) (s : Sh) (m : Option Mv) (F : Nat → Prop) (g b : Nat) (tN : List (Nat × Nat)) (bs sq : Int) (x : Nat) (T2 : Int) (I : Nat) (d : List Pt) (A : Option Addr) (n c : Nat) (w : World) (h : ShG w F q s m g b tN) (hd : RdP w w.heap.size A n c d) (hx8 : x < 8) (hT : subT s (x : Int) = (sq, T2)) (hI : nI (units d) = I) (h0 : 0 < sq) (h1 : sq ≤ 2147483647) (hc : chk d = 0) :
 Calls Try.prog 51 #[.pointer (some ⟨q, 0, none⟩), .agg #[.int .i64 bs, .int .i64 x, .int .i64 sq, .slice A n c]] w fun e w' => e = .returned (.tuple #[.int .i64 T2, .int .i64 0]) ∧ ShG w' (grow F w w') q (s) m g b tN ∧ Only w w' F := by
 have HW : Hid (Only w w F) := Lib.hid (Only.refl _ _)
 have HM := Lib.hid h
 have HD := Lib.hid hd
 have kp := Blk.new w 82 #[.int .i64 bs, .int .i64 x, .int .i64 sq, .slice A n c]
 have hal := (Below.refl w.heap.size w).alloc (Nat.le_refl _) (.cells #[.int .i64 bs, .int .i64 x, .int .i64 sq, .slice A n c] 82)
 obtain ⟨gz, hg⟩ : ∃ gz, w.heap.size = gz := ⟨_, rfl⟩
 have Hg0 := Lib.hid hg
 clear h hd hg
 go_enter Try.func51, Try.ntmps51
 go_upto_region 1 with (fail)
 obtain ⟨u1, hu1⟩ : ∃ u1, w.alloc (.cells #[.int .i64 bs, .int .i64 x, .int .i64 sq, .slice A n c] 82) = u1 := ⟨_, rfl⟩
 rw [hu1] at kp hal ⊢
 rw [Hg0.out] at kp ⊢
 have HK := Lib.hid kp
 clear kp hu1
 replace HM := Lib.hid (HM.out.below hal)
 replace HD := Lib.hid (RdP.step HD.out hal)
 have HW_ := Lib.hid (HW.out.trans (Only.of_below hal))
 clear HW
 have HW := HW_
 clear HW_ hal
 have k0 := HK.out.cell 0
 have k1 := HK.out.cell 1
 have k2 := HK.out.cell 2
 have k3 := HK.out.cell 3
 have lk := HK.out.lt
 have hc_ := slast_B q s m 0 g x u1 (ShB.of (B := 0) HM.out (fun _ _ => Nat.zero_le _)) hx8
 rw [show s.log.table.getD x (0, 0) = subT s (x : Int) from rfl, hT] at hc_
 have Hc_ := Lib.hid hc_
 clear hc_
 go_wp2_with fail
 refine Hc_.out.mono ?_
 rintro e w1 ⟨rfl, hb1⟩
 clear Hc_
 replace HM := Lib.hid (HM.out.below hb1)
 replace HD := Lib.hid (RdP.step HD.out hb1)
 replace HK := Lib.hid (HK.out.below hb1 HK.out.lt)
 have HW_ := Lib.hid (HW.out.trans (Only.of_below hb1))
 clear HW
 have HW := HW_
 clear HW_ hb1
 clear k0 k1 k2 k3 lk
 have k0 := HK.out.cell 0
 have k1 := HK.out.cell 1
 have k2 := HK.out.cell 2
 have k3 := HK.out.cell 3
 have lk := HK.out.lt
 go_upto_region 2 with (fail)
 have hal := (Below.refl w1.heap.size w1).alloc (Nat.le_refl _) (.cells #[.int .i64 sq, .int .i64 T2] 74)
 have kq := Blk.new w1 74 #[.int .i64 sq, .int .i64 T2]
 obtain ⟨u2, hu2⟩ : ∃ u2, w1.alloc (.cells #[.int .i64 sq, .int .i64 T2] 74) = u2 := ⟨_, rfl⟩
 rw [hu2] at kq hal ⊢
 obtain ⟨gs, hgs⟩ : ∃ gs, w1.heap.size = gs := ⟨_, rfl⟩
 rw [hgs] at kq ⊢
 have HQ := Lib.hid kq
 clear kq hu2 hgs
 replace HM := Lib.hid (HM.out.below hal)
 replace HD := Lib.hid (RdP.step HD.out hal)
 replace HK := Lib.hid (HK.out.below hal HK.out.lt)
 have HW_ := Lib.hid (HW.out.trans (Only.of_below hal))
 clear HW
 have HW := HW_
 clear HW_ hal
 clear k0 k1 k2 k3 lk
 have k0 := HK.out.cell 0
 have k1 := HK.out.cell 1
 have k2 := HK.out.cell 2
 have k3 := HK.out.cell 3
 have lk := HK.out.lt
 try clear q0 q1 lq
 have q0 := HQ.out.cell 0
 have q1 := HQ.out.cell 1
 have lq := HQ.out.lt
 have hf1 : decide (sq < 0) = false := decide_eq_false (by omega)
 have hf2 : decide (2147483647 < sq) = false := decide_eq_false (by omega)
 have hf3 : decide (0 < sq) = true := decide_eq_true h0
 have Hc0 := Lib.hid hc
 clear hc
 have hc_ := psizes_good d A n c _ u2 HD.out (Nat.le_refl _) Hc0.out
 rw [hI] at hc_
 have Hc_ := Lib.hid hc_
 clear hc_
 go_wp2_with fail
 refine Hc_.out.mono ?_
 rintro e w2 ⟨rfl, hb2⟩
 clear Hc_
 replace HM := Lib.hid (HM.out.below hb2)
 replace HD := Lib.hid (RdP.step HD.out hb2)
 replace HK := Lib.hid (HK.out.below hb2 HK.out.lt)
 replace HQ := Lib.hid (HQ.out.below hb2 HQ.out.lt)
 have HW_ := Lib.hid (HW.out.trans (Only.of_below hb2))
 clear HW
 have HW := HW_
 clear HW_ hb2
 clear k0 k1 k2 k3 lk
 have k0 := HK.out.cell 0
 have k1 := HK.out.cell 1
 have k2 := HK.out.cell 2
 have k3 := HK.out.cell 3
 have lk := HK.out.lt
 try clear q0 q1 lq
 have q0 := HQ.out.cell 0
 have q1 := HQ.out.cell 1
 have lq := HQ.out.lt
 go_wp2_with fail
 go_ret2
 exact ⟨rfl, ⟨HM.out.mem.grow, HM.out.inv⟩, HW.out⟩
theorem sub_seq (q : Nat) (s : Sh) (m : Option Mv) (F : Nat → Prop) (g b : Nat) (tN : List (Nat × Nat)) (bs sq : Int) (x : Nat) (T1 T2 : Int) (I : Nat) (d : List Pt) (A : Option Addr) (n c : Nat) (w : World) (h : ShG w F q s m g b tN) (hd : RdP w w.heap.size A n c d) (hx8 : x < 8) (hT : subT s (x : Int) = (T1, T2)) (hI : nI (units d) = I) (h0 : 0 ≤ sq) (h1 : sq ≤ 2147483647) (hc : chk d = 0) (hn : ¬ (0 < sq ∧ sq = T1)) (h2 : sq ≤ T1) :
 Calls Try.prog 51 #[.pointer (some ⟨q, 0, none⟩), .agg #[.int .i64 bs, .int .i64 x, .int .i64 sq, .slice A n c]] w fun e w' => e = .returned (.tuple #[.int .i64 0, .int .i64 10]) ∧ ShG w' (grow F w w') q (s) m g b tN ∧ Only w w' F := by
 have HW : Hid (Only w w F) := Lib.hid (Only.refl _ _)
 have HM := Lib.hid h
 have HD := Lib.hid hd
 have kp := Blk.new w 82 #[.int .i64 bs, .int .i64 x, .int .i64 sq, .slice A n c]
 have hal := (Below.refl w.heap.size w).alloc (Nat.le_refl _) (.cells #[.int .i64 bs, .int .i64 x, .int .i64 sq, .slice A n c] 82)
 obtain ⟨gz, hg⟩ : ∃ gz, w.heap.size = gz := ⟨_, rfl⟩
 have Hg0 := Lib.hid hg
 clear h hd hg
 go_enter Try.func51, Try.ntmps51
 go_upto_region 1 with (fail)
 obtain ⟨u1, hu1⟩ : ∃ u1, w.alloc (.cells #[.int .i64 bs, .int .i64 x, .int .i64 sq, .slice A n c] 82) = u1 := ⟨_, rfl⟩
 rw [hu1] at kp hal ⊢
 rw [Hg0.out] at kp ⊢
 have HK := Lib.hid kp
 clear kp hu1
 replace HM := Lib.hid (HM.out.below hal)
 replace HD := Lib.hid (RdP.step HD.out hal)
 have HW_ := Lib.hid (HW.out.trans (Only.of_below hal))
 clear HW
 have HW := HW_
 clear HW_ hal
 have k0 := HK.out.cell 0
 have k1 := HK.out.cell 1
 have k2 := HK.out.cell 2
 have k3 := HK.out.cell 3
 have lk := HK.out.lt
 have hc_ := slast_B q s m 0 g x u1 (ShB.of (B := 0) HM.out (fun _ _ => Nat.zero_le _)) hx8
 rw [show s.log.table.getD x (0, 0) = subT s (x : Int) from rfl, hT] at hc_
 have Hc_ := Lib.hid hc_
 clear hc_
 go_wp2_with fail
 refine Hc_.out.mono ?_
 rintro e w1 ⟨rfl, hb1⟩
 clear Hc_
 replace HM := Lib.hid (HM.out.below hb1)
 replace HD := Lib.hid (RdP.step HD.out hb1)
 replace HK := Lib.hid (HK.out.below hb1 HK.out.lt)
 have HW_ := Lib.hid (HW.out.trans (Only.of_below hb1))
 clear HW
 have HW := HW_
 clear HW_ hb1
 clear k0 k1 k2 k3 lk
 have k0 := HK.out.cell 0
 have k1 := HK.out.cell 1
 have k2 := HK.out.cell 2
 have k3 := HK.out.cell 3
 have lk := HK.out.lt
 go_upto_region 2 with (fail)
 have hal := (Below.refl w1.heap.size w1).alloc (Nat.le_refl _) (.cells #[.int .i64 T1, .int .i64 T2] 74)
 have kq := Blk.new w1 74 #[.int .i64 T1, .int .i64 T2]
 obtain ⟨u2, hu2⟩ : ∃ u2, w1.alloc (.cells #[.int .i64 T1, .int .i64 T2] 74) = u2 := ⟨_, rfl⟩
 rw [hu2] at kq hal ⊢
 obtain ⟨gs, hgs⟩ : ∃ gs, w1.heap.size = gs := ⟨_, rfl⟩
 rw [hgs] at kq ⊢
 have HQ := Lib.hid kq
 clear kq hu2 hgs
 replace HM := Lib.hid (HM.out.below hal)
 replace HD := Lib.hid (RdP.step HD.out hal)
 replace HK := Lib.hid (HK.out.below hal HK.out.lt)
 have HW_ := Lib.hid (HW.out.trans (Only.of_below hal))
 clear HW
 have HW := HW_
 clear HW_ hal
 clear k0 k1 k2 k3 lk
 have k0 := HK.out.cell 0
 have k1 := HK.out.cell 1
 have k2 := HK.out.cell 2
 have k3 := HK.out.cell 3
 have lk := HK.out.lt
 try clear q0 q1 lq
 have q0 := HQ.out.cell 0
 have q1 := HQ.out.cell 1
 have lq := HQ.out.lt
 have hf1 : decide (sq < 0) = false := decide_eq_false (by omega)
 have hf2 : decide (2147483647 < sq) = false := decide_eq_false (by omega)
 have hf4 : decide (sq ≤ T1) = true := decide_eq_true h2
 have Hc0 := Lib.hid hc
 clear hc
 have hc_ := psizes_good d A n c _ u2 HD.out (Nat.le_refl _) Hc0.out
 rw [hI] at hc_
 have Hc_ := Lib.hid hc_
 clear hc_
 go_wp2_with fail
 refine Hc_.out.mono ?_
 rintro e w2 ⟨rfl, hb2⟩
 clear Hc_
 replace HM := Lib.hid (HM.out.below hb2)
 replace HD := Lib.hid (RdP.step HD.out hb2)
 replace HK := Lib.hid (HK.out.below hb2 HK.out.lt)
 replace HQ := Lib.hid (HQ.out.below hb2 HQ.out.lt)
 have HW_ := Lib.hid (HW.out.trans (Only.of_below hb2))
 clear HW
 have HW := HW_
 clear HW_ hb2
 clear k0 k1 k2 k3 lk
 have k0 := HK.out.cell 0
 have k1 := HK.out.cell 1
 have k2 := HK.out.cell 2
 have k3 := HK.out.cell 3
 have lk := HK.out.lt
 try clear q0 q1 lq
 have q0 := HQ.out.cell 0
 have q1 := HQ.out.cell 1
 have lq := HQ.out.lt
 by_cases hp : 0 < sq
 case pos =>
  have hf3 : decide (0 < sq) = true := decide_eq_true hp
  have hf5 : (sq == T1) = false := beq_false_of_ne fun e => hn ⟨hp, e⟩
  clear hn
  go_wp2_with fail
  go_ret2
  exact ⟨rfl, ⟨HM.out.mem.grow, HM.out.inv⟩, HW.out⟩
 case neg =>
  have hf3 : decide (0 < sq) = false := decide_eq_false hp
  clear hn
  go_wp2_with fail
  go_ret2
  exact ⟨rfl, ⟨HM.out.mem.grow, HM.out.inv⟩, HW.out⟩
theorem sub_gone (q : Nat) (s : Sh) (m : Option Mv) (F : Nat → Prop) (g b : Nat) (tN : List (Nat × Nat)) (bs sq : Int) (x : Nat) (T1 T2 : Int) (I : Nat) (E : Int) (d : List Pt) (A : Option Addr) (n c : Nat) (w : World) (h : ShG w F q s m g b tN) (hd : RdP w w.heap.size A n c d) (hx8 : x < 8) (hT : subT s (x : Int) = (T1, T2)) (hI : nI (units d) = I) (hc : chk d = 0) (hp : 0 < sq) (h1 : sq ≤ 2147483647) (h2 : T1 < sq) (hE : thE s.log bs = E) (hE0 : E ≠ 0) :
 Calls Try.prog 51 #[.pointer (some ⟨q, 0, none⟩), .agg #[.int .i64 bs, .int .i64 x, .int .i64 sq, .slice A n c]] w fun e w' => e = .returned (.tuple #[.int .i64 0, .int .i64 E]) ∧ ShG w' (grow F w w') q (s) m g b tN ∧ Only w w' F := by
 have HW : Hid (Only w w F) := Lib.hid (Only.refl _ _)
 have HM := Lib.hid h
 have HD := Lib.hid hd
 have kp := Blk.new w 82 #[.int .i64 bs, .int .i64 x, .int .i64 sq, .slice A n c]
 have hal := (Below.refl w.heap.size w).alloc (Nat.le_refl _) (.cells #[.int .i64 bs, .int .i64 x, .int .i64 sq, .slice A n c] 82)
 obtain ⟨gz, hg⟩ : ∃ gz, w.heap.size = gz := ⟨_, rfl⟩
 have Hg0 := Lib.hid hg
 clear h hd hg
 go_enter Try.func51, Try.ntmps51
 go_upto_region 1 with (fail)
 obtain ⟨u1, hu1⟩ : ∃ u1, w.alloc (.cells #[.int .i64 bs, .int .i64 x, .int .i64 sq, .slice A n c] 82) = u1 := ⟨_, rfl⟩
 rw [hu1] at kp hal ⊢
 rw [Hg0.out] at kp ⊢
 have HK := Lib.hid kp
 clear kp hu1
 replace HM := Lib.hid (HM.out.below hal)
 replace HD := Lib.hid (RdP.step HD.out hal)
 have HW_ := Lib.hid (HW.out.trans (Only.of_below hal))
 clear HW
 have HW := HW_
 clear HW_ hal
 have k0 := HK.out.cell 0
 have k1 := HK.out.cell 1
 have k2 := HK.out.cell 2
 have k3 := HK.out.cell 3
 have lk := HK.out.lt
 have hc_ := slast_B q s m 0 g x u1 (ShB.of (B := 0) HM.out (fun _ _ => Nat.zero_le _)) hx8
 rw [show s.log.table.getD x (0, 0) = subT s (x : Int) from rfl, hT] at hc_
 have Hc_ := Lib.hid hc_
 clear hc_
 go_wp2_with fail
 refine Hc_.out.mono ?_
 rintro e w1 ⟨rfl, hb1⟩
 clear Hc_
 replace HM := Lib.hid (HM.out.below hb1)
 replace HD := Lib.hid (RdP.step HD.out hb1)
 replace HK := Lib.hid (HK.out.below hb1 HK.out.lt)
 have HW_ := Lib.hid (HW.out.trans (Only.of_below hb1))
 clear HW
 have HW := HW_
 clear HW_ hb1
 clear k0 k1 k2 k3 lk
 have k0 := HK.out.cell 0
 have k1 := HK.out.cell 1
 have k2 := HK.out.cell 2
 have k3 := HK.out.cell 3
 have lk := HK.out.lt
 go_upto_region 2 with (fail)
 have hal := (Below.refl w1.heap.size w1).alloc (Nat.le_refl _) (.cells #[.int .i64 T1, .int .i64 T2] 74)
 have kq := Blk.new w1 74 #[.int .i64 T1, .int .i64 T2]
 obtain ⟨u2, hu2⟩ : ∃ u2, w1.alloc (.cells #[.int .i64 T1, .int .i64 T2] 74) = u2 := ⟨_, rfl⟩
 rw [hu2] at kq hal ⊢
 obtain ⟨gs, hgs⟩ : ∃ gs, w1.heap.size = gs := ⟨_, rfl⟩
 rw [hgs] at kq ⊢
 have HQ := Lib.hid kq
 clear kq hu2 hgs
 replace HM := Lib.hid (HM.out.below hal)
 replace HD := Lib.hid (RdP.step HD.out hal)
 replace HK := Lib.hid (HK.out.below hal HK.out.lt)
 have HW_ := Lib.hid (HW.out.trans (Only.of_below hal))
 clear HW
 have HW := HW_
 clear HW_ hal
 clear k0 k1 k2 k3 lk
 have k0 := HK.out.cell 0
 have k1 := HK.out.cell 1
 have k2 := HK.out.cell 2
 have k3 := HK.out.cell 3
 have lk := HK.out.lt
 try clear q0 q1 lq
 have q0 := HQ.out.cell 0
 have q1 := HQ.out.cell 1
 have lq := HQ.out.lt
 have hf1 : decide (sq < 0) = false := decide_eq_false (by omega)
 have hf2 : decide (2147483647 < sq) = false := decide_eq_false (by omega)
 have hf3 : decide (0 < sq) = true := decide_eq_true hp
 have hf5 : (sq == T1) = false := beq_false_of_ne (by omega)
 have hf4 : decide (sq ≤ T1) = false := decide_eq_false (by omega)
 clear h2 hp
 have Hc0 := Lib.hid hc
 clear hc
 have hc_ := psizes_good d A n c _ u2 HD.out (Nat.le_refl _) Hc0.out
 rw [hI] at hc_
 have Hc_ := Lib.hid hc_
 clear hc_
 go_wp2_with fail
 refine Hc_.out.mono ?_
 rintro e w2 ⟨rfl, hb2⟩
 clear Hc_
 replace HM := Lib.hid (HM.out.below hb2)
 replace HD := Lib.hid (RdP.step HD.out hb2)
 replace HK := Lib.hid (HK.out.below hb2 HK.out.lt)
 replace HQ := Lib.hid (HQ.out.below hb2 HQ.out.lt)
 have HW_ := Lib.hid (HW.out.trans (Only.of_below hb2))
 clear HW
 have HW := HW_
 clear HW_ hb2
 clear k0 k1 k2 k3 lk
 have k0 := HK.out.cell 0
 have k1 := HK.out.cell 1
 have k2 := HK.out.cell 2
 have k3 := HK.out.cell 3
 have lk := HK.out.lt
 try clear q0 q1 lq
 have q0 := HQ.out.cell 0
 have q1 := HQ.out.cell 1
 have lq := HQ.out.lt
 have hEn : (E != 0) = true := by simpa using hE0
 have HE := Lib.hid hE
 have HE0 := Lib.hid hE0
 clear hE hE0
 have hc_ := stextno_B q s m 0 g bs w2 (ShB.of (B := 0) HM.out (fun _ _ => Nat.zero_le _)) (by rw [HE.out]; exact HE0.out)
 rw [HE.out] at hc_
 have Hc_ := Lib.hid hc_
 clear hc_
 go_wp2_with fail
 refine Hc_.out.mono ?_
 rintro e w3 ⟨rfl, hb3⟩
 clear Hc_
 replace HM := Lib.hid (HM.out.below hb3)
 replace HD := Lib.hid (RdP.step HD.out hb3)
 replace HK := Lib.hid (HK.out.below hb3 HK.out.lt)
 replace HQ := Lib.hid (HQ.out.below hb3 HQ.out.lt)
 have HW_ := Lib.hid (HW.out.trans (Only.of_below hb3))
 clear HW
 have HW := HW_
 clear HW_ hb3
 clear k0 k1 k2 k3 lk
 have k0 := HK.out.cell 0
 have k1 := HK.out.cell 1
 have k2 := HK.out.cell 2
 have k3 := HK.out.cell 3
 have lk := HK.out.lt
 try clear q0 q1 lq
 have q0 := HQ.out.cell 0
 have q1 := HQ.out.cell 1
 have lq := HQ.out.lt
 go_wp2_with fail
 go_ret2
 exact ⟨rfl, ⟨HM.out.mem.grow, HM.out.inv⟩, HW.out⟩
theorem sub_len (q : Nat) (s : Sh) (m : Option Mv) (F : Nat → Prop) (g b : Nat) (tN : List (Nat × Nat)) (bs sq : Int) (x : Nat) (T1 T2 : Int) (I : Nat) (k : Nat) (TX : ByteArray) (d : List Pt) (A : Option Addr) (n c : Nat) (w : World) (h : ShG w F q s m g b tN) (hd : RdP w w.heap.size A n c d) (hx8 : x < 8) (hT : subT s (x : Int) = (T1, T2)) (hI : nI (units d) = I) (hc : chk d = 0) (hp : 0 < sq) (h1 : sq ≤ 2147483647) (h2 : T1 < sq) (hk : bs = s.log.base + (k : Int)) (hkl : k ≤ s.log.revs.length) (hTX : txt s.log.text s.log.revs k = TX) (hZ : I ≠ TX.size) :
 Calls Try.prog 51 #[.pointer (some ⟨q, 0, none⟩), .agg #[.int .i64 bs, .int .i64 x, .int .i64 sq, .slice A n c]] w fun e w' => e = .returned (.tuple #[.int .i64 0, .int .i64 4]) ∧ ShG w' (grow F w w') q (s) m g b tN ∧ Only w w' F := by
 have Hk := Lib.hid hk
 have HTX := Lib.hid hTX
 have Hkl := Lib.hid hkl
 clear hk hTX hkl
 have HW : Hid (Only w w F) := Lib.hid (Only.refl _ _)
 have HM := Lib.hid h
 have HD := Lib.hid hd
 have kp := Blk.new w 82 #[.int .i64 bs, .int .i64 x, .int .i64 sq, .slice A n c]
 have hal := (Below.refl w.heap.size w).alloc (Nat.le_refl _) (.cells #[.int .i64 bs, .int .i64 x, .int .i64 sq, .slice A n c] 82)
 obtain ⟨gz, hg⟩ : ∃ gz, w.heap.size = gz := ⟨_, rfl⟩
 have Hg0 := Lib.hid hg
 clear h hd hg
 go_enter Try.func51, Try.ntmps51
 go_upto_region 1 with (fail)
 obtain ⟨u1, hu1⟩ : ∃ u1, w.alloc (.cells #[.int .i64 bs, .int .i64 x, .int .i64 sq, .slice A n c] 82) = u1 := ⟨_, rfl⟩
 rw [hu1] at kp hal ⊢
 rw [Hg0.out] at kp ⊢
 have HK := Lib.hid kp
 clear kp hu1
 replace HM := Lib.hid (HM.out.below hal)
 replace HD := Lib.hid (RdP.step HD.out hal)
 have HW_ := Lib.hid (HW.out.trans (Only.of_below hal))
 clear HW
 have HW := HW_
 clear HW_ hal
 have k0 := HK.out.cell 0
 have k1 := HK.out.cell 1
 have k2 := HK.out.cell 2
 have k3 := HK.out.cell 3
 have lk := HK.out.lt
 have hc_ := slast_B q s m 0 g x u1 (ShB.of (B := 0) HM.out (fun _ _ => Nat.zero_le _)) hx8
 rw [show s.log.table.getD x (0, 0) = subT s (x : Int) from rfl, hT] at hc_
 have Hc_ := Lib.hid hc_
 clear hc_
 go_wp2_with fail
 refine Hc_.out.mono ?_
 rintro e w1 ⟨rfl, hb1⟩
 clear Hc_
 replace HM := Lib.hid (HM.out.below hb1)
 replace HD := Lib.hid (RdP.step HD.out hb1)
 replace HK := Lib.hid (HK.out.below hb1 HK.out.lt)
 have HW_ := Lib.hid (HW.out.trans (Only.of_below hb1))
 clear HW
 have HW := HW_
 clear HW_ hb1
 clear k0 k1 k2 k3 lk
 have k0 := HK.out.cell 0
 have k1 := HK.out.cell 1
 have k2 := HK.out.cell 2
 have k3 := HK.out.cell 3
 have lk := HK.out.lt
 go_upto_region 2 with (fail)
 have hal := (Below.refl w1.heap.size w1).alloc (Nat.le_refl _) (.cells #[.int .i64 T1, .int .i64 T2] 74)
 have kq := Blk.new w1 74 #[.int .i64 T1, .int .i64 T2]
 obtain ⟨u2, hu2⟩ : ∃ u2, w1.alloc (.cells #[.int .i64 T1, .int .i64 T2] 74) = u2 := ⟨_, rfl⟩
 rw [hu2] at kq hal ⊢
 obtain ⟨gs, hgs⟩ : ∃ gs, w1.heap.size = gs := ⟨_, rfl⟩
 rw [hgs] at kq ⊢
 have HQ := Lib.hid kq
 clear kq hu2 hgs
 replace HM := Lib.hid (HM.out.below hal)
 replace HD := Lib.hid (RdP.step HD.out hal)
 replace HK := Lib.hid (HK.out.below hal HK.out.lt)
 have HW_ := Lib.hid (HW.out.trans (Only.of_below hal))
 clear HW
 have HW := HW_
 clear HW_ hal
 clear k0 k1 k2 k3 lk
 have k0 := HK.out.cell 0
 have k1 := HK.out.cell 1
 have k2 := HK.out.cell 2
 have k3 := HK.out.cell 3
 have lk := HK.out.lt
 try clear q0 q1 lq
 have q0 := HQ.out.cell 0
 have q1 := HQ.out.cell 1
 have lq := HQ.out.lt
 have hf1 : decide (sq < 0) = false := decide_eq_false (by omega)
 have hf2 : decide (2147483647 < sq) = false := decide_eq_false (by omega)
 have hf3 : decide (0 < sq) = true := decide_eq_true hp
 have hf5 : (sq == T1) = false := beq_false_of_ne (by omega)
 have hf4 : decide (sq ≤ T1) = false := decide_eq_false (by omega)
 clear h2 hp
 have Hc0 := Lib.hid hc
 clear hc
 have hc_ := psizes_good d A n c _ u2 HD.out (Nat.le_refl _) Hc0.out
 rw [hI] at hc_
 have Hc_ := Lib.hid hc_
 clear hc_
 go_wp2_with fail
 refine Hc_.out.mono ?_
 rintro e w2 ⟨rfl, hb2⟩
 clear Hc_
 replace HM := Lib.hid (HM.out.below hb2)
 replace HD := Lib.hid (RdP.step HD.out hb2)
 replace HK := Lib.hid (HK.out.below hb2 HK.out.lt)
 replace HQ := Lib.hid (HQ.out.below hb2 HQ.out.lt)
 have HW_ := Lib.hid (HW.out.trans (Only.of_below hb2))
 clear HW
 have HW := HW_
 clear HW_ hb2
 clear k0 k1 k2 k3 lk
 have k0 := HK.out.cell 0
 have k1 := HK.out.cell 1
 have k2 := HK.out.cell 2
 have k3 := HK.out.cell 3
 have lk := HK.out.lt
 try clear q0 q1 lq
 have q0 := HQ.out.cell 0
 have q1 := HQ.out.cell 1
 have lq := HQ.out.lt
 have hc_ := stext_B q s m 0 g bs k w2 (ShB.of (B := 0) HM.out (fun _ _ => Nat.zero_le _)) Hk.out Hkl.out
 rw [HTX.out] at hc_
 have Hc_ := Lib.hid hc_
 clear hc_
 go_wp2_with fail
 refine Hc_.out.mono ?_
 rintro e w3 ⟨rfl, hb3⟩
 clear Hc_
 replace HM := Lib.hid (HM.out.below hb3)
 replace HD := Lib.hid (RdP.step HD.out hb3)
 replace HK := Lib.hid (HK.out.below hb3 HK.out.lt)
 replace HQ := Lib.hid (HQ.out.below hb3 HQ.out.lt)
 have HW_ := Lib.hid (HW.out.trans (Only.of_below hb3))
 clear HW
 have HW := HW_
 clear HW_ hb3
 clear k0 k1 k2 k3 lk
 have k0 := HK.out.cell 0
 have k1 := HK.out.cell 1
 have k2 := HK.out.cell 2
 have k3 := HK.out.cell 3
 have lk := HK.out.lt
 try clear q0 q1 lq
 have q0 := HQ.out.cell 0
 have q1 := HQ.out.cell 1
 have lq := HQ.out.lt
 have hf6 : ((I : Int) == (TX.size : Int)) = false := by simp; omega
 clear hZ
 go_wp2_with fail
 go_ret2
 exact ⟨rfl, ⟨HM.out.mem.grow, HM.out.inv⟩, HW.out⟩
theorem sub_all (q : Nat) (s : Sh) (m : Option Mv) (F : Nat → Prop) (g b : Nat) (tN : List (Nat × Nat)) (bs sq : Int) (x : Nat) (T1 T2 : Int) (I : Nat) (k : Nat) (TX : ByteArray) (E : Int) (R : List Pt) (d : List Pt) (A : Option Addr) (n c : Nat) (w : World) (h : ShG w F q s m g b tN) (hd : RdP w w.heap.size A n c d) (hx8 : x < 8) (hT : subT s (x : Int) = (T1, T2)) (hI : nI (units d) = I) (hc : chk d = 0) (hp : 0 < sq) (h1 : sq ≤ 2147483647) (h2 : T1 < sq) (hk : bs = s.log.base + (k : Int)) (hkl : k ≤ s.log.revs.length) (hTX : txt s.log.text s.log.revs k = TX) (hZ : I = TX.size) (hE : mtE d (s.log.revs.drop k) = E) (hR : mtL d (s.log.revs.drop k) = R) (NX EX : Int) (SX : Sh) (hX : NX = (if E ≠ 0 then 0 else if nextE s.log s.text.size ((x : Int), sq, R) = 0 then s.log.base + (s.log.revs.length + 1 : Nat) else 0) ∧ EX = (if E ≠ 0 then E else nextE s.log s.text.size ((x : Int), sq, R)) ∧ SX = (if E ≠ 0 then s else addG s m ((x : Int), sq, R))) :
 Calls Try.prog 51 #[.pointer (some ⟨q, 0, none⟩), .agg #[.int .i64 bs, .int .i64 x, .int .i64 sq, .slice A n c]] w fun e w' => ∃ NN EE, e = .returned (.tuple #[.int .i64 NN, .int .i64 EE]) ∧ SubP w w' F q m g b tN NN NX EE EX SX := by
 subst hZ
 have HX := Lib.hid hX
 clear hX
 have Hk := Lib.hid hk
 have HTX := Lib.hid hTX
 have Hkl := Lib.hid hkl
 clear hk hTX hkl
 have HW : Hid (Only w w F) := Lib.hid (Only.refl _ _)
 have HM := Lib.hid h
 have HD := Lib.hid hd
 have kp := Blk.new w 82 #[.int .i64 bs, .int .i64 x, .int .i64 sq, .slice A n c]
 have hal := (Below.refl w.heap.size w).alloc (Nat.le_refl _) (.cells #[.int .i64 bs, .int .i64 x, .int .i64 sq, .slice A n c] 82)
 obtain ⟨gz, hg⟩ : ∃ gz, w.heap.size = gz := ⟨_, rfl⟩
 have Hg0 := Lib.hid hg
 clear h hd hg
 go_enter Try.func51, Try.ntmps51
 go_upto_region 1 with (fail)
 obtain ⟨u1, hu1⟩ : ∃ u1, w.alloc (.cells #[.int .i64 bs, .int .i64 x, .int .i64 sq, .slice A n c] 82) = u1 := ⟨_, rfl⟩
 rw [hu1] at kp hal ⊢
 rw [Hg0.out] at kp ⊢
 have HK := Lib.hid kp
 clear kp hu1
 replace HM := Lib.hid (HM.out.below hal)
 replace HD := Lib.hid (RdP.step HD.out hal)
 have HW_ := Lib.hid (HW.out.trans (Only.of_below hal))
 clear HW
 have HW := HW_
 clear HW_ hal
 have k0 := HK.out.cell 0
 have k1 := HK.out.cell 1
 have k2 := HK.out.cell 2
 have k3 := HK.out.cell 3
 have lk := HK.out.lt
 have hc_ := slast_B q s m 0 g x u1 (ShB.of (B := 0) HM.out (fun _ _ => Nat.zero_le _)) hx8
 rw [show s.log.table.getD x (0, 0) = subT s (x : Int) from rfl, hT] at hc_
 have Hc_ := Lib.hid hc_
 clear hc_
 go_wp2_with fail
 refine Hc_.out.mono ?_
 rintro e w1 ⟨rfl, hb1⟩
 clear Hc_
 replace HM := Lib.hid (HM.out.below hb1)
 replace HD := Lib.hid (RdP.step HD.out hb1)
 replace HK := Lib.hid (HK.out.below hb1 HK.out.lt)
 have HW_ := Lib.hid (HW.out.trans (Only.of_below hb1))
 clear HW
 have HW := HW_
 clear HW_ hb1
 clear k0 k1 k2 k3 lk
 have k0 := HK.out.cell 0
 have k1 := HK.out.cell 1
 have k2 := HK.out.cell 2
 have k3 := HK.out.cell 3
 have lk := HK.out.lt
 go_upto_region 2 with (fail)
 have hal := (Below.refl w1.heap.size w1).alloc (Nat.le_refl _) (.cells #[.int .i64 T1, .int .i64 T2] 74)
 have kq := Blk.new w1 74 #[.int .i64 T1, .int .i64 T2]
 obtain ⟨u2, hu2⟩ : ∃ u2, w1.alloc (.cells #[.int .i64 T1, .int .i64 T2] 74) = u2 := ⟨_, rfl⟩
 rw [hu2] at kq hal ⊢
 obtain ⟨gs, hgs⟩ : ∃ gs, w1.heap.size = gs := ⟨_, rfl⟩
 rw [hgs] at kq ⊢
 have HQ := Lib.hid kq
 clear kq hu2 hgs
 replace HM := Lib.hid (HM.out.below hal)
 replace HD := Lib.hid (RdP.step HD.out hal)
 replace HK := Lib.hid (HK.out.below hal HK.out.lt)
 have HW_ := Lib.hid (HW.out.trans (Only.of_below hal))
 clear HW
 have HW := HW_
 clear HW_ hal
 clear k0 k1 k2 k3 lk
 have k0 := HK.out.cell 0
 have k1 := HK.out.cell 1
 have k2 := HK.out.cell 2
 have k3 := HK.out.cell 3
 have lk := HK.out.lt
 try clear q0 q1 lq
 have q0 := HQ.out.cell 0
 have q1 := HQ.out.cell 1
 have lq := HQ.out.lt
 have hf1 : decide (sq < 0) = false := decide_eq_false (by omega)
 have hf2 : decide (2147483647 < sq) = false := decide_eq_false (by omega)
 have hf3 : decide (0 < sq) = true := decide_eq_true hp
 have hf5 : (sq == T1) = false := beq_false_of_ne (by omega)
 have hf4 : decide (sq ≤ T1) = false := decide_eq_false (by omega)
 clear h2 hp
 have Hc0 := Lib.hid hc
 clear hc
 have hc_ := psizes_good d A n c _ u2 HD.out (Nat.le_refl _) Hc0.out
 rw [hI] at hc_
 have Hc_ := Lib.hid hc_
 clear hc_
 go_wp2_with fail
 refine Hc_.out.mono ?_
 rintro e w2 ⟨rfl, hb2⟩
 clear Hc_
 replace HM := Lib.hid (HM.out.below hb2)
 replace HD := Lib.hid (RdP.step HD.out hb2)
 replace HK := Lib.hid (HK.out.below hb2 HK.out.lt)
 replace HQ := Lib.hid (HQ.out.below hb2 HQ.out.lt)
 have HW_ := Lib.hid (HW.out.trans (Only.of_below hb2))
 clear HW
 have HW := HW_
 clear HW_ hb2
 clear k0 k1 k2 k3 lk
 have k0 := HK.out.cell 0
 have k1 := HK.out.cell 1
 have k2 := HK.out.cell 2
 have k3 := HK.out.cell 3
 have lk := HK.out.lt
 try clear q0 q1 lq
 have q0 := HQ.out.cell 0
 have q1 := HQ.out.cell 1
 have lq := HQ.out.lt
 have hc_ := stext_B q s m 0 g bs k w2 (ShB.of (B := 0) HM.out (fun _ _ => Nat.zero_le _)) Hk.out Hkl.out
 rw [HTX.out] at hc_
 have Hc_ := Lib.hid hc_
 clear hc_
 go_wp2_with fail
 refine Hc_.out.mono ?_
 rintro e w3 ⟨rfl, hb3⟩
 clear Hc_
 replace HM := Lib.hid (HM.out.below hb3)
 replace HD := Lib.hid (RdP.step HD.out hb3)
 replace HK := Lib.hid (HK.out.below hb3 HK.out.lt)
 replace HQ := Lib.hid (HQ.out.below hb3 HQ.out.lt)
 have HW_ := Lib.hid (HW.out.trans (Only.of_below hb3))
 clear HW
 have HW := HW_
 clear HW_ hb3
 clear k0 k1 k2 k3 lk
 have k0 := HK.out.cell 0
 have k1 := HK.out.cell 1
 have k2 := HK.out.cell 2
 have k3 := HK.out.cell 3
 have lk := HK.out.lt
 try clear q0 q1 lq
 have q0 := HQ.out.cell 0
 have q1 := HQ.out.cell 1
 have lq := HQ.out.lt
 have hc_ := srevs_B q s m 0 g bs k w3 (ShB.of (B := 0) HM.out (fun _ _ => Nat.zero_le _)) Hk.out Hkl.out
 have Hc_ := Lib.hid hc_
 clear hc_
 go_wp2_with fail
 refine Hc_.out.mono ?_
 rintro e w4 ⟨sl4, ss4, rfl, hv4, hb4⟩
 clear Hc_
 replace HM := Lib.hid (HM.out.below hb4)
 replace HD := Lib.hid (RdP.step HD.out hb4)
 replace HK := Lib.hid (HK.out.below hb4 HK.out.lt)
 replace HQ := Lib.hid (HQ.out.below hb4 HQ.out.lt)
 have HW_ := Lib.hid (HW.out.trans (Only.of_below hb4))
 clear HW
 have HW := HW_
 clear HW_ hb4
 clear k0 k1 k2 k3 lk
 have k0 := HK.out.cell 0
 have k1 := HK.out.cell 1
 have k2 := HK.out.cell 2
 have k3 := HK.out.cell 3
 have lk := HK.out.lt
 try clear q0 q1 lq
 have q0 := HQ.out.cell 0
 have q1 := HQ.out.cell 1
 have lq := HQ.out.lt
 obtain ⟨A4, n4, c4⟩ := sl4
 obtain ⟨L4, hL4⟩ : ∃ L4, s.log.revs.drop k = L4 := ⟨_, rfl⟩
 rw [hL4] at hv4 hE hR
 have hv4 := hv4.rd
 have hn4 : n4 = L4.length := hv4.1
 have hn64 : n4 ≤ 64 := by
  have := HM.out.inv.log.len
  rw [hn4, ← hL4, List.length_drop]
  omega
 have HN4 := Lib.hid hn4
 have HR4 := Lib.hid hv4
 have HE : Hid (mtE d L4 = E ∧ (E = 0 → mtL d L4 = R)) := Lib.hid ⟨hE, fun _ => hR⟩
 clear hn4 hv4 hL4 hE hR Hk Hkl HTX
 go_upto_region 19 with (fail)
 clear k0 k1 k2 k3 lk q0 q1 lq
 go_loopw [7, 13, 15, 87] (fun ev pv bx iv wr => ∃ (j n1 c1 : Nat) (A1 : Option Addr) (t : List Pt), j ≤ n4 ∧ iv = .int .i64 j ∧ ev = .int .i64 0 ∧ pv = .slice A1 n1 c1 ∧ Hid (RdP wr wr.heap.size A1 n1 c1 t) ∧ Hid (mtE t (L4.drop j) = E ∧ (E = 0 → mtL t (L4.drop j) = R)) ∧ Hid (ShG wr F q s m g b tN) ∧ Hid (RdR wr wr.heap.size A4 n4 c4 L4) ∧ Hid (Blk wr gz 82 #[.int .i64 bs, .int .i64 x, .int .i64 sq, .slice A n c]) ∧ Hid (Only w wr F)) (fun _ _ _ iv _ => n4 - (intOf iv).toNat)
 case atStart => exact ⟨0, n, c, A, d, by omega, rfl, rfl, rfl, HD, Lib.hid (by rw [List.drop_zero]; exact HE.out), HM, HR4, HK, HW⟩
 case round =>
  clear HM HR4 HK HW HD HE HQ
  obtain ⟨j, n1, c1, A1, t, hj, rfl, rfl, rfl, HD, HE, HM, HR4, HK, HW⟩ := hrel
  by_cases hlt : j < n4
  · have hjl : j < L4.length := by have := HN4.out; omega
    obtain ⟨b4, o4, A5, n5, c5, rfl, hbl, d0, d1, d2, hrd⟩ := HR4.out.at_ j hlt
    have hdr : L4.drop j = L4[j] :: L4.drop (j + 1) := List.drop_eq_getElem_cons hjl
    have hst := HE.out
    rw [hdr] at hst
    have hstep := mt_step hst
    obtain ⟨r, hr⟩ : ∃ r, L4[j] = r := ⟨_, rfl⟩
    rw [hr] at hst hstep d0 d1 hrd
    obtain ⟨ra, rb, rd⟩ := r
    simp only at d0 d1 d2 hrd hstep
    have hj0 : (0 : Int) ≤ (j : Int) := by omega
    have hjn : (j : Int) < (n4 : Int) := by omega
    have Hstep := Lib.hid hstep
    have HRd := Lib.hid hrd
    clear hr hdr hst hstep hrd HE
    go_upto_region 21 with (fail)
    have hal := (Below.refl wr.heap.size wr).alloc (Nat.le_refl _) (.cells #[.int .i64 ra, .int .i64 rb, .slice A5 n5 c5] 30)
    have kz := Blk.new wr 30 #[.int .i64 ra, .int .i64 rb, .slice A5 n5 c5]
    obtain ⟨u3, hu3⟩ : ∃ u3, wr.alloc (.cells #[.int .i64 ra, .int .i64 rb, .slice A5 n5 c5] 30) = u3 := ⟨_, rfl⟩
    rw [hu3] at kz hal ⊢
    obtain ⟨gr, hgr⟩ : ∃ gr, wr.heap.size = gr := ⟨_, rfl⟩
    rw [hgr] at kz ⊢
    clear hu3 hgr d0 d1 d2 hbl
    replace HM := Lib.hid (HM.out.below hal)
    replace HD := Lib.hid (RdP.step HD.out hal)
    replace HK := Lib.hid (HK.out.below hal HK.out.lt)
    replace HR4 := Lib.hid (RdR.step HR4.out hal)
    replace HRd := Lib.hid (RdP.step HRd.out hal)
    have HW_ := Lib.hid (HW.out.trans (Only.of_below hal))
    clear HW
    have HW := HW_
    clear HW_ hal
    have z2 := kz.cell 2
    have lz := kz.lt
    obtain ⟨Z, hZ⟩ : ∃ Z, meetE rd t = Z := ⟨_, rfl⟩
    have HZ := Lib.hid hZ
    clear hZ kz
    have hc_ := meet_rdn rd t A5 A1 n5 n1 c5 c1 u3 HRd.out HD.out Z _ _ HZ.out rfl rfl
    have Hc_ := Lib.hid hc_
    clear hc_
    go_wp2_with fail
    refine Hc_.out.mono ?_
    rintro e w5 ⟨Am, nm, cm, Ax, nx, cx, rfl, hm1, hx1, hb5⟩
    clear Hc_
    replace HM := Lib.hid (HM.out.below hb5)
    replace HD := Lib.hid (RdP.step HD.out hb5)
    replace HK := Lib.hid (HK.out.below hb5 HK.out.lt)
    replace HR4 := Lib.hid (RdR.step HR4.out hb5)
    replace HRd := Lib.hid (RdP.step HRd.out hb5)
    have HW_ := Lib.hid (HW.out.trans (Only.of_below hb5))
    clear HW
    have HW := HW_
    clear HW_ hb5
    clear z2 lz hm1
    by_cases hz0 : Z = 0
    · skip
      subst hz0
      have hs2 := Hstep.out.2 HZ.out
      have HE2 := Lib.hid hs2
      have HX := Lib.hid hx1
      clear hs2 hx1 HD HRd
      go_wp2_with fail
      go_roundw
      case rel => exact ⟨j + 1, nx, cx, Ax, meetD rd t, by omega, by go_num, rfl, rfl, HX, HE2, HM, HR4, HK, HW⟩
      case measure => simp [intOf]; omega
    · skip
      have hzn : (Z != 0) = true := by simpa using hz0
      have hZE : E = Z := (Hstep.out.1 (by rw [HZ.out]; exact hz0)).trans HZ.out
      have hE0 : E ≠ 0 := by rw [hZE]; exact hz0
      have HE0 := Lib.hid hE0
      have HZE := Lib.hid hZE
      clear hx1 hz0 hE0 hZE
      go_wp2_with fail
      go_ret2
      have hP : SubP w w5 F q m g b tN 0 NX Z EX SX := ⟨by rw [HX.out.2.2, if_pos HE0.out]; exact ⟨HM.out.mem.grow, HM.out.inv⟩, HW.out, by rw [HX.out.1, if_pos HE0.out], by rw [HX.out.2.1, if_pos HE0.out, HZE.out]⟩
      exact ⟨0, Z, rfl, hP⟩
  · obtain rfl : j = n4 := by omega
    have he := HE.out
    rw [List.drop_of_length_le (by have := HN4.out; omega)] at he
    obtain ⟨he1, he2⟩ := he
    obtain rfl : E = 0 := he1.symm
    obtain rfl : t = R := he2 rfl
    clear he1 he2 HE HR4 hlt
    have k1 := HK.out.cell 1
    have k2 := HK.out.cell 2
    have lk := HK.out.lt
    have hc_ := sadd_G q s m F g b tN (x : Int) sq t A1 n1 c1 wr HM.out HD.out
    obtain ⟨NN, hNN⟩ : ∃ NN : Int, (if nextE s.log s.text.size ((x : Int), sq, t) = 0 then s.log.base + (s.log.revs.length + 1 : Nat) else 0) = NN := ⟨_, rfl⟩
    obtain ⟨EE, hEE⟩ : ∃ EE : Int, nextE s.log s.text.size ((x : Int), sq, t) = EE := ⟨_, rfl⟩
    rw [hNN, hEE] at hc_
    have Hc_ := Lib.hid hc_
    have HNN := Lib.hid hNN
    have HEE := Lib.hid hEE
    clear hc_ hNN hEE
    go_wp2_with fail
    refine Hc_.out.mono ?_
    rintro e w9 ⟨rfl, hm9_, hb9⟩
    have hw9 := HW.out.trans hb9
    have hs9 := HW.out.2.2.2.1
    have hm9 : ShG w9 (grow F w w9) q (addG s m ((x : Int), sq, t)) m g b tN := ⟨hm9_.mem.mono (fun k hk => by rcases hk with hk | hk; exact .inl hk; exact .inr ⟨by omega, hk.2⟩) (fun k hk => by rcases hk with hk | hk; exact hm9_.mem.lt k (.inl hk); exact hk.2), hm9_.inv⟩
    clear hb9 Hc_ hm9_ hs9
    go_wp2_with fail
    go_ret2
    have hx := HX.out
    have hP : SubP w w9 F q m g b tN NN NX EE EX SX := ⟨by rw [hx.2.2, if_neg (by simp)]; exact hm9, hw9, by rw [hx.1, if_neg (by simp)]; exact HNN.out.symm, by rw [hx.2.1, if_neg (by simp)]; exact HEE.out.symm⟩
    exact ⟨NN, EE, rfl, hP⟩
theorem submit_G (q : Nat) (s : Sh) (m : Option Mv) (F : Nat → Prop) (g b : Nat) (tN : List (Nat × Nat)) (bs who sq : Int) (d : List Pt) (A : Option Addr) (n c : Nat) (w : World) (h : ShG w F q s m g b tN) (hd : RdP w w.heap.size A n c d) :
 Calls Try.prog 51 #[.pointer (some ⟨q, 0, none⟩), .agg #[.int .i64 bs, .int .i64 who, .int .i64 sq, .slice A n c]] w fun e w' => e = .returned (.tuple #[.int .i64 (subN s bs who sq d), .int .i64 (subE s bs who sq d)]) ∧ ShG w' (grow F w w') q (subS s m bs who sq d) m g b tN ∧ Only w w' F := by
 by_cases hw : who < 0 ∨ 7 < who
 · have hE : subE s bs who sq d = 1 := by unfold subE; rw [if_pos (by omega)]
   unfold subN subS
   rw [hE, if_pos (by decide), if_pos (.inl (by decide))]
   exact sub_who q s m F g b tN bs sq who d A n c w h hd hw
 · obtain ⟨x, rfl⟩ := Int.eq_ofNat_of_zero_le (show 0 ≤ who by omega)
   have hx8 : x < 8 := by omega
   obtain ⟨⟨T1, T2⟩, hT⟩ : ∃ T, subT s (x : Int) = T := ⟨_, rfl⟩
   have hT0 := (ShB.of (B := 0) h (fun _ _ => Nat.zero_le _)).tab0 (x : Int)
   rw [hT] at hT0
   simp only at hT0
   by_cases h0 : sq < 0
   · have hE : subE s bs x sq d = 1 := by unfold subE; rw [if_pos (by omega)]
     unfold subN subS
     rw [hE, if_pos (by decide), if_pos (.inl (by decide))]
     exact sub_neg q s m F g b tN bs sq x T1 T2 d A n c w h hd hx8 hT h0
   · by_cases h1 : 2147483647 < sq
     · have hE : subE s bs x sq d = 1 := by unfold subE; rw [if_pos (by omega)]
       unfold subN subS
       rw [hE, if_pos (by decide), if_pos (.inl (by decide))]
       exact sub_big q s m F g b tN bs sq x T1 T2 d A n c w h hd hx8 hT h1
     · have ha : ¬ ((x : Int) < 0 ∨ 7 < (x : Int) ∨ sq < 0 ∨ 2147483647 < sq) := by omega
       by_cases hc : chk d = 0
       · obtain ⟨I, hI⟩ : ∃ I, nI (units d) = I := ⟨_, rfl⟩
         by_cases hag : 0 < sq ∧ sq = T1
         · obtain ⟨hp, rfl⟩ := hag
           have hE : subE s bs x sq d = 0 := by unfold subE; rw [if_neg ha, if_neg (by simp [hc]), if_pos ⟨hp, by rw [hT]⟩]
           have hA : subAgain s x sq d := ⟨ha, hc, hp, by rw [hT]⟩
           unfold subN subS
           rw [hE, if_neg (by simp), if_pos hA, if_pos (.inr hA), hT]
           exact sub_again q s m F g b tN bs sq x T2 I d A n c w h hd hx8 hT hI hp (by omega) hc
         · have hA : ¬ subAgain s x sq d := fun hh => hag ⟨hh.2.2.1, by have := hh.2.2.2; rw [hT] at this; exact this⟩
           have hA' : ¬ (0 < sq ∧ sq = (subT s x).1) := by rw [hT]; exact hag
           by_cases h2 : sq ≤ T1
           · have hE : subE s bs x sq d = 10 := by unfold subE; rw [if_neg ha, if_neg (by simp [hc]), if_neg hA', if_pos (by rw [hT]; exact h2)]
             unfold subN subS
             rw [hE, if_pos (by decide), if_pos (.inl (by decide))]
             exact sub_seq q s m F g b tN bs sq x T1 T2 I d A n c w h hd hx8 hT hI (by omega) (by omega) hc hag h2
           · have h2' : ¬ sq ≤ (subT s x).1 := by rw [hT]; exact h2
             by_cases ht : thE s.log bs = 0
             · obtain ⟨k, hk, hkl⟩ := thE_zero ht
               have hkk : (bs - s.log.base).toNat = k := by omega
               obtain ⟨TX, hTX⟩ : ∃ TX, txt s.log.text s.log.revs k = TX := ⟨_, rfl⟩
               by_cases hZ : I = TX.size
               · obtain ⟨E, hE⟩ : ∃ E, mtE d (s.log.revs.drop k) = E := ⟨_, rfl⟩
                 obtain ⟨R, hR⟩ : ∃ R, mtL d (s.log.revs.drop k) = R := ⟨_, rfl⟩
                 have hSE : subE s bs x sq d = if E ≠ 0 then E else nextE s.log s.text.size ((x : Int), sq, R) := by
                  unfold subE
                  rw [if_neg ha, if_neg (by simp [hc]), if_neg hA', if_neg h2', if_neg (by simp [ht]), hkk, hTX, hI, if_neg (by simp [hZ]), hE, hR]
                 refine (sub_all q s m F g b tN bs sq x T1 T2 I k TX E R d A n c w h hd hx8 hT hI hc (by omega) (by omega) (by omega) hk hkl hTX hZ hE hR _ _ _ ⟨rfl, rfl, rfl⟩).mono ?_
                 rintro e w' ⟨NN, EE, rfl, a1, a2, e1, e2⟩
                 subst e1 e2
                 unfold subN subS
                 rw [hSE, hkk, hR]
                 refine ⟨?_, ?_, a2⟩
                 · by_cases hE0 : E = 0
                   · subst hE0
                     simp only [ne_eq, not_true_eq_false, if_false]
                     rw [if_neg hA]
                     by_cases hn : nextE s.log s.text.size ((x : Int), sq, R) = 0
                     · rw [hn]; simp
                     · rw [if_neg hn, if_pos hn]
                   · rw [if_pos hE0, if_pos hE0, if_pos hE0]
                 · by_cases hE0 : E = 0
                   · subst hE0
                     simp only [ne_eq, not_true_eq_false, if_false] at a1 ⊢
                     by_cases hn : nextE s.log s.text.size ((x : Int), sq, R) = 0
                     · rw [if_neg (by simp [hn, hA])]; exact a1
                     · rw [if_pos (.inl hn)]
                       have e1 : addG s m ((x : Int), sq, R) = s := by unfold addG; rw [if_neg hn]
                       rw [e1] at a1
                       exact a1
                   · rw [if_pos hE0] at a1 ⊢
                     rw [if_pos (.inl hE0)]
                     exact a1
               · have hE : subE s bs x sq d = 4 := by
                  unfold subE
                  rw [if_neg ha, if_neg (by simp [hc]), if_neg hA', if_neg h2', if_neg (by simp [ht]), hkk, hTX, hI, if_pos hZ]
                 unfold subN subS
                 rw [hE, if_pos (by decide), if_pos (.inl (by decide))]
                 exact sub_len q s m F g b tN bs sq x T1 T2 I k TX d A n c w h hd hx8 hT hI hc (by omega) (by omega) (by omega) hk hkl hTX hZ
             · have hE : subE s bs x sq d = thE s.log bs := by
                unfold subE
                rw [if_neg ha, if_neg (by simp [hc]), if_neg hA', if_neg h2', if_pos ht]
               unfold subN subS
               rw [hE, if_pos ht, if_pos (.inl ht)]
               exact sub_gone q s m F g b tN bs sq x T1 T2 I _ d A n c w h hd hx8 hT hI hc (by omega) (by omega) (by omega) rfl ht
       · have hE : subE s bs x sq d = chk d := by unfold subE; rw [if_neg ha, if_pos hc]
         unfold subN subS
         rw [hE, if_pos hc, if_pos (.inl hc)]
         exact sub_chk q s m F g b tN bs sq x T1 T2 d A n c w h hd hx8 hT (by omega) (by omega) hc
end Go.Proofs.Ytokngfinnieccaa
