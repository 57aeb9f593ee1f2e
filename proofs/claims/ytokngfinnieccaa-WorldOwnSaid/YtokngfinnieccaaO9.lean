/- Rows of parts of the call's own, short, of short texts. Contract of hot.rev. Contract of hot.Next. The laws' helper first: a revision that puts a text; histories just boxed. slices.Clone of a history, and a revision behind it. A history of the call's own: its row, and its deltas. Contract of hot.Add. -/
import Derived.Test.YtokngfinnieccaaO6
import Derived.Test.YtokngfinnieccaaO7
import Derived.Test.YtokngfinnieccaaO8
import Derived.Test.YtokngfinnieccaaO4
import Derived.Test.YtokngfinnieccaaO5
import Derived.IntWalk
namespace Go.Proofs.Ytokngfinnieccaa
open Go.ChangeShapes Go.WideShapes Go.RowKit
set_option linter.unusedVariables false
set_option linter.unusedSimpArgs false
set_option maxRecDepth 100000
set_option maxHeartbeats 4000000
structure Mine (w : World) (B : Nat) (v : Value) (l : List Pt) : Prop where
 own : OwnP w B v l
 len : l.length ≤ 1600
 txt : ∀ p ∈ l, p.2.2.size ≤ 140737488351232
theorem small_of {l : List Pt} (h : chk l = 0 ∨ l = []) : l.length ≤ 1600 ∧ ∀ p ∈ l, p.2.2.size ≤ 140737488351232 := by
 rcases h with h | rfl
 · exact ⟨((good_iff l).1 h).1, text_good h⟩
 · exact ⟨by simp, by simp⟩
theorem small_meetC (a b : List Pt) : chk (meetC a b) = 0 ∨ meetC a b = [] := by
 by_cases h : meetE a b = 0
 · exact .inl (meet_good h).1
 · exact .inr (meet_err h).1
theorem own_ne_ {w : World} {B B' : Nat} {e e' : TypeId} {size size' n n' : Nat} {v v' : Value} {xs xs' : List Value} (h : w.ownsRow B e size v n xs) (h' : w.ownsRow B' e' size' v' n' xs') (hne : e ≠ e') : v.ownBlock = none ∨ v.ownBlock ≠ v'.ownBlock := by
 rcases h.2 with ⟨rfl, _⟩ | ⟨g, cap, cur, rfl, _, hg, _⟩
 · exact .inl rfl
 · rcases h'.2 with ⟨rfl, _⟩ | ⟨g', cap', cur', rfl, _, hg', _⟩
   · exact .inr (by simp [Value.ownBlock])
   · refine .inr fun he => ?_
     simp only [Value.ownBlock, Option.some.injEq] at he
     subst he
     rw [hg] at hg'
     injection hg' with hg'
     injection hg' with _ h2
     exact hne h2
theorem rdSx {w : World} {B : Nat} {A : Option Addr} {n c : Nat} {l : List Pt} (h : OwnP w B (.slice A n c) l) (ht : ∀ p ∈ l, p.2.2.size ≤ 140737488351232) : RdP w w.heap.size A n c l := by
 obtain ⟨A', c', e, hr⟩ := h.rd ht
 injection e with e1 e2 e3
 subst e1; subst e2; subst e3
 exact hr
theorem rev_info : (Try.prog.info? 30).map (·.size) = some 3 := by kernel_rfl
theorem rev_row {W : World} {g : Nat} {cs : Array Value} (h : Blk W g 30 cs) (hs : cs.size = 3) : (loadVar 30 ⟨g, 0, none⟩).run Try.prog W = .ok (.agg cs) W :=
 run_loadVar_row (P := Try.prog) W g 30 30 _ _ _ h Try.underlying30 rfl (by rw [hs]; exact rev_info)
def nextE (l : Lg) (size : Nat) (r : Rv) : Int :=
 if oneE r ≠ 0 then oneE r else if r.2.1 ≤ (l.table.getD r.1.toNat (0, 0)).1 then 10
 else if 64 ≤ l.revs.length ∨ 2147483647 ≤ l.base + l.revs.length then 11 else fitsE r.2.2 size
theorem next_one (l : Lg) (sl : Sl) (h8 : Lg8 l) (hsl : sl.2.1 = l.revs.length) (hb0 : 0 ≤ l.base) (hb1 : l.base ≤ 2147483647) (hrl : l.revs.length ≤ 1000) (size : Nat) (b : Int) (d : List Pt) (A : Option Addr) (n c : Nat) (w : World) (hd : RdP w w.heap.size A n c d) (a : Int) (hne : oneE (a, b, d) ≠ 0) :
 Calls Try.prog 85 #[.agg (lgc l sl), .int .i64 size, .agg #[.int .i64 a, .int .i64 b, .slice A n c]] w fun e w' => e = .returned (.int .i64 (oneE (a, b, d))) ∧ Below w.heap.size w w' := by
 obtain ⟨O, hO⟩ : ∃ O, oneE (a, b, d) = O := ⟨_, rfl⟩
 rw [hO] at hne ⊢
 have HO := Lib.hid hO
 have hne2 : (O != 0) = true := by simpa using hne
 clear hO hne
 have Hd := Lib.hid hd
 clear hd
 have hb0 : Below w.heap.size w w := Below.refl _ _
 have hb1 := hb0.alloc hb0.size (.cells (lgc l sl) 131)
 have kl := Blk.new w 131 (lgc l sl)
 have hb2 := hb1.alloc hb1.size (.cells #[.int .i64 a, .int .i64 b, .slice A n c] 30)
 replace kl := kl.alloc (.cells #[.int .i64 a, .int .i64 b, .slice A n c] 30)
 have kr := Blk.new (w.alloc (.cells (lgc l sl) 131)) 30 #[.int .i64 a, .int .i64 b, .slice A n c]
 clear hb0 hb1
 have hb := hb2
 clear hb2
 simp only [World.size_alloc] at kl kr
 go_enter Try.func85, Try.ntmps85
 go_upto_region 1 with (fail)
 generalize ((w.alloc (.cells (lgc l sl) 131)).alloc (.cells #[.int .i64 a, .int .i64 b, .slice A n c] 30)) = W0 at *
 obtain ⟨g, hbase⟩ : ∃ g, w.heap.size = g := ⟨_, rfl⟩
 rw [hbase] at hb kl kr ⊢
 have hsz : g ≤ W0.heap.size := by have := hb.size; omega
 have ll := kl.lt
 have lr := kr.lt
 have Hd := Lib.hid (hbase ▸ Hd.out)
 go_wp2_with (first | (refine wpList_load_blk rfl _ (.tmp 5) rfl (g + 1) rfl _ (rev_row kr rfl) ?_))
 refine (one_any a b d A n c _ O W0 ((Hd.out.below hb).more hsz) (Nat.le_refl _) HO.out).mono ?_
 rintro e v1 ⟨rfl, hv1⟩
 replace kl := kl.below hv1 kl.lt
 replace ll := kl.lt
 replace kr := kr.below hv1 kr.lt
 replace lr := kr.lt
 replace hb := hb.trans (hv1.mono hsz)
 replace hsz : g ≤ v1.heap.size := Nat.le_trans hsz hv1.size
 clear hv1
 go_wp2_with fail
 go_ret
 exact ⟨rfl, hbase ▸ hb⟩
theorem next_seq (l : Lg) (sl : Sl) (h8 : Lg8 l) (hsl : sl.2.1 = l.revs.length) (hb0 : 0 ≤ l.base) (hb1 : l.base ≤ 2147483647) (hrl : l.revs.length ≤ 1000) (size : Nat) (b : Int) (d : List Pt) (A : Option Addr) (n c : Nat) (w : World) (hd : RdP w w.heap.size A n c d) (k : Nat) (hk : k < 8) (ho : oneE ((k : Int), b, d) = 0) (T : Int) (hT : (l.table[k]'(by have := h8.2; omega)).1 = T) (h1 : b ≤ T) :
 Calls Try.prog 85 #[.agg (lgc l sl), .int .i64 size, .agg #[.int .i64 k, .int .i64 b, .slice A n c]] w fun e w' => e = .returned (.int .i64 10) ∧ Below w.heap.size w w' := by
 have HO := Lib.hid ho
 have HT := Lib.hid hT
 clear ho hT
 obtain ⟨m, hm⟩ : ∃ m, l.revs.length = m := ⟨_, rfl⟩
 rw [hm] at hsl hrl
 obtain ⟨Bs, hBs⟩ : ∃ Bs, l.base = Bs := ⟨_, rfl⟩
 rw [hBs] at hb0 hb1
 have Hm := Lib.hid hsl
 have HB := Lib.hid hBs
 clear hm hsl hBs
 have Hd := Lib.hid hd
 clear hd
 have hb0 : Below w.heap.size w w := Below.refl _ _
 have hb1 := hb0.alloc hb0.size (.cells (lgc l sl) 131)
 have kl := Blk.new w 131 (lgc l sl)
 have hb2 := hb1.alloc hb1.size (.cells #[.int .i64 k, .int .i64 b, .slice A n c] 30)
 replace kl := kl.alloc (.cells #[.int .i64 k, .int .i64 b, .slice A n c] 30)
 have kr := Blk.new (w.alloc (.cells (lgc l sl) 131)) 30 #[.int .i64 k, .int .i64 b, .slice A n c]
 clear hb0 hb1
 have hb := hb2
 clear hb2
 simp only [World.size_alloc] at kl kr
 go_enter Try.func85, Try.ntmps85
 go_upto_region 1 with (fail)
 generalize ((w.alloc (.cells (lgc l sl) 131)).alloc (.cells #[.int .i64 k, .int .i64 b, .slice A n c] 30)) = W0 at *
 obtain ⟨g, hbase⟩ : ∃ g, w.heap.size = g := ⟨_, rfl⟩
 rw [hbase] at hb kl kr ⊢
 have hsz : g ≤ W0.heap.size := by have := hb.size; omega
 have ll := kl.lt
 have lr := kr.lt
 have Hd := Lib.hid (hbase ▸ Hd.out)
 go_wp2_with (first | (refine wpList_load_blk rfl _ (.tmp 5) rfl (g + 1) rfl _ (rev_row kr rfl) ?_))
 refine (one_any k b d A n c _ 0 W0 ((Hd.out.below hb).more hsz) (Nat.le_refl _) HO.out).mono ?_
 rintro e v1 ⟨rfl, hv1⟩
 replace kl := kl.below hv1 kl.lt
 replace ll := kl.lt
 replace kr := kr.below hv1 kr.lt
 replace lr := kr.lt
 replace hb := hb.trans (hv1.mono hsz)
 replace hsz : g ≤ v1.heap.size := Nat.le_trans hsz hv1.size
 clear hv1
 have a1 := (lgc_table (s := sl) h8 k hk).1
 rw [HT.out] at a1
 have b1 := kl.cell (19 + k * 2)
 rw [a1] at b1
 clear a1
 have hk0 : (0 : Int) ≤ (k : Int) := by omega
 have hk8 : (k : Int) < 8 := by omega
 have cr_0 := kr.cell 0
 have cr_1 := kr.cell 1
 go_upto_region 4 with (fail)
 go_quiet (fail)
 clear b1 cr_0 cr_1
 replace kl := kl.drewN nq
 replace kr := kr.drewN nq
 replace hb := below_drewN_ hb nq
 have hsz2 : g ≤ (v1.drewN nq).heap.size := hsz
 obtain ⟨wn, hU_⟩ : ∃ U_, v1.drewN nq = U_ := ⟨_, rfl⟩
 rw [hU_] at kl kr hb hsz2 ⊢
 clear hU_ hsz
 have hsz := hsz2
 clear hsz2
 replace ll := kl.lt
 replace lr := kr.lt
 go_wp2_with fail
 go_ret
 exact ⟨rfl, hbase ▸ hb⟩
theorem next_full (l : Lg) (sl : Sl) (h8 : Lg8 l) (hsl : sl.2.1 = l.revs.length) (hb0 : 0 ≤ l.base) (hb1 : l.base ≤ 2147483647) (hrl : l.revs.length ≤ 1000) (size : Nat) (b : Int) (d : List Pt) (A : Option Addr) (n c : Nat) (w : World) (hd : RdP w w.heap.size A n c d) (k : Nat) (hk : k < 8) (ho : oneE ((k : Int), b, d) = 0) (T : Int) (hT : (l.table[k]'(by have := h8.2; omega)).1 = T) (h1 : T < b) (h2 : 64 ≤ l.revs.length ∨ 2147483647 ≤ l.base + l.revs.length) :
 Calls Try.prog 85 #[.agg (lgc l sl), .int .i64 size, .agg #[.int .i64 k, .int .i64 b, .slice A n c]] w fun e w' => e = .returned (.int .i64 11) ∧ Below w.heap.size w w' := by
 have HO := Lib.hid ho
 have HT := Lib.hid hT
 clear ho hT
 obtain ⟨m, hm⟩ : ∃ m, l.revs.length = m := ⟨_, rfl⟩
 rw [hm] at hsl hrl h2
 obtain ⟨Bs, hBs⟩ : ∃ Bs, l.base = Bs := ⟨_, rfl⟩
 rw [hBs] at hb0 hb1 h2
 have Hm := Lib.hid hsl
 have HB := Lib.hid hBs
 clear hm hsl hBs
 have Hd := Lib.hid hd
 clear hd
 have hb0 : Below w.heap.size w w := Below.refl _ _
 have hb1 := hb0.alloc hb0.size (.cells (lgc l sl) 131)
 have kl := Blk.new w 131 (lgc l sl)
 have hb2 := hb1.alloc hb1.size (.cells #[.int .i64 k, .int .i64 b, .slice A n c] 30)
 replace kl := kl.alloc (.cells #[.int .i64 k, .int .i64 b, .slice A n c] 30)
 have kr := Blk.new (w.alloc (.cells (lgc l sl) 131)) 30 #[.int .i64 k, .int .i64 b, .slice A n c]
 clear hb0 hb1
 have hb := hb2
 clear hb2
 simp only [World.size_alloc] at kl kr
 go_enter Try.func85, Try.ntmps85
 go_upto_region 1 with (fail)
 generalize ((w.alloc (.cells (lgc l sl) 131)).alloc (.cells #[.int .i64 k, .int .i64 b, .slice A n c] 30)) = W0 at *
 obtain ⟨g, hbase⟩ : ∃ g, w.heap.size = g := ⟨_, rfl⟩
 rw [hbase] at hb kl kr ⊢
 have hsz : g ≤ W0.heap.size := by have := hb.size; omega
 have ll := kl.lt
 have lr := kr.lt
 have Hd := Lib.hid (hbase ▸ Hd.out)
 go_wp2_with (first | (refine wpList_load_blk rfl _ (.tmp 5) rfl (g + 1) rfl _ (rev_row kr rfl) ?_))
 refine (one_any k b d A n c _ 0 W0 ((Hd.out.below hb).more hsz) (Nat.le_refl _) HO.out).mono ?_
 rintro e v1 ⟨rfl, hv1⟩
 replace kl := kl.below hv1 kl.lt
 replace ll := kl.lt
 replace kr := kr.below hv1 kr.lt
 replace lr := kr.lt
 replace hb := hb.trans (hv1.mono hsz)
 replace hsz : g ≤ v1.heap.size := Nat.le_trans hsz hv1.size
 clear hv1
 have a1 := (lgc_table (s := sl) h8 k hk).1
 rw [HT.out] at a1
 have b1 := kl.cell (19 + k * 2)
 rw [a1] at b1
 clear a1
 have hk0 : (0 : Int) ≤ (k : Int) := by omega
 have hk8 : (k : Int) < 8 := by omega
 have cr_0 := kr.cell 0
 have cr_1 := kr.cell 1
 go_upto_region 4 with (fail)
 go_quiet (fail)
 clear b1 cr_0 cr_1
 replace kl := kl.drewN nq
 replace kr := kr.drewN nq
 replace hb := below_drewN_ hb nq
 have hsz2 : g ≤ (v1.drewN nq).heap.size := hsz
 obtain ⟨wn, hU_⟩ : ∃ U_, v1.drewN nq = U_ := ⟨_, rfl⟩
 rw [hU_] at kl kr hb hsz2 ⊢
 clear hU_ hsz
 have hsz := hsz2
 clear hsz2
 replace ll := kl.lt
 replace lr := kr.lt
 have q1 := kl.cell 1
 have q2 := kl.cell 35
 rw [lgc_base] at q1
 rw [lgc_revs h8] at q2
 have hsm := Hm.out
 have hbs := HB.out
 rcases h2 with h2 | h2
 · skip
   go_wp2_with fail
   go_ret
   exact ⟨rfl, hbase ▸ hb⟩
 · by_cases h9 : 64 ≤ m
   · go_wp2_with fail
     go_ret
     exact ⟨rfl, hbase ▸ hb⟩
   · go_wp2_with fail
     go_ret
     exact ⟨rfl, hbase ▸ hb⟩
theorem next_fits (l : Lg) (sl : Sl) (h8 : Lg8 l) (hsl : sl.2.1 = l.revs.length) (hb0 : 0 ≤ l.base) (hb1 : l.base ≤ 2147483647) (hrl : l.revs.length ≤ 1000) (size : Nat) (b : Int) (d : List Pt) (A : Option Addr) (n c : Nat) (w : World) (hd : RdP w w.heap.size A n c d) (k : Nat) (hk : k < 8) (ho : oneE ((k : Int), b, d) = 0) (T : Int) (hT : (l.table[k]'(by have := h8.2; omega)).1 = T) (h1 : T < b) (h2 : l.revs.length < 64) (h3 : l.base + l.revs.length < 2147483647) :
 Calls Try.prog 85 #[.agg (lgc l sl), .int .i64 size, .agg #[.int .i64 k, .int .i64 b, .slice A n c]] w fun e w' => e = .returned (.int .i64 (fitsE d size)) ∧ Below w.heap.size w w' := by
 have HO := Lib.hid ho
 have HT := Lib.hid hT
 clear ho hT
 obtain ⟨m, hm⟩ : ∃ m, l.revs.length = m := ⟨_, rfl⟩
 rw [hm] at hsl hrl h2 h3
 obtain ⟨Bs, hBs⟩ : ∃ Bs, l.base = Bs := ⟨_, rfl⟩
 rw [hBs] at hb0 hb1 h3
 have Hm := Lib.hid hsl
 have HB := Lib.hid hBs
 clear hm hsl hBs
 have Hd := Lib.hid hd
 clear hd
 have hb0 : Below w.heap.size w w := Below.refl _ _
 have hb1 := hb0.alloc hb0.size (.cells (lgc l sl) 131)
 have kl := Blk.new w 131 (lgc l sl)
 have hb2 := hb1.alloc hb1.size (.cells #[.int .i64 k, .int .i64 b, .slice A n c] 30)
 replace kl := kl.alloc (.cells #[.int .i64 k, .int .i64 b, .slice A n c] 30)
 have kr := Blk.new (w.alloc (.cells (lgc l sl) 131)) 30 #[.int .i64 k, .int .i64 b, .slice A n c]
 clear hb0 hb1
 have hb := hb2
 clear hb2
 simp only [World.size_alloc] at kl kr
 go_enter Try.func85, Try.ntmps85
 go_upto_region 1 with (fail)
 generalize ((w.alloc (.cells (lgc l sl) 131)).alloc (.cells #[.int .i64 k, .int .i64 b, .slice A n c] 30)) = W0 at *
 obtain ⟨g, hbase⟩ : ∃ g, w.heap.size = g := ⟨_, rfl⟩
 rw [hbase] at hb kl kr ⊢
 have hsz : g ≤ W0.heap.size := by have := hb.size; omega
 have ll := kl.lt
 have lr := kr.lt
 have Hd := Lib.hid (hbase ▸ Hd.out)
 go_wp2_with (first | (refine wpList_load_blk rfl _ (.tmp 5) rfl (g + 1) rfl _ (rev_row kr rfl) ?_))
 refine (one_any k b d A n c _ 0 W0 ((Hd.out.below hb).more hsz) (Nat.le_refl _) HO.out).mono ?_
 rintro e v1 ⟨rfl, hv1⟩
 replace kl := kl.below hv1 kl.lt
 replace ll := kl.lt
 replace kr := kr.below hv1 kr.lt
 replace lr := kr.lt
 replace hb := hb.trans (hv1.mono hsz)
 replace hsz : g ≤ v1.heap.size := Nat.le_trans hsz hv1.size
 clear hv1
 have a1 := (lgc_table (s := sl) h8 k hk).1
 rw [HT.out] at a1
 have b1 := kl.cell (19 + k * 2)
 rw [a1] at b1
 clear a1
 have hk0 : (0 : Int) ≤ (k : Int) := by omega
 have hk8 : (k : Int) < 8 := by omega
 have cr_0 := kr.cell 0
 have cr_1 := kr.cell 1
 go_upto_region 4 with (fail)
 go_quiet (fail)
 clear b1 cr_0 cr_1
 replace kl := kl.drewN nq
 replace kr := kr.drewN nq
 replace hb := below_drewN_ hb nq
 have hsz2 : g ≤ (v1.drewN nq).heap.size := hsz
 obtain ⟨wn, hU_⟩ : ∃ U_, v1.drewN nq = U_ := ⟨_, rfl⟩
 rw [hU_] at kl kr hb hsz2 ⊢
 clear hU_ hsz
 have hsz := hsz2
 clear hsz2
 replace ll := kl.lt
 replace lr := kr.lt
 have q1 := kl.cell 1
 have q2 := kl.cell 35
 rw [lgc_base] at q1
 rw [lgc_revs h8] at q2
 have hsm := Hm.out
 have hbs := HB.out
 go_upto_region 8 with (fail)
 clear q1 q2
 have cr_2 := kr.cell 2
 go_wp2_with fail
 clear cr_2
 refine (fits_any d A n c g size wn (Hd.out.below hb) hsz).mono ?_
 rintro e v2 ⟨rfl, hv2⟩
 replace kl := kl.below hv2 kl.lt
 replace ll := kl.lt
 replace kr := kr.below hv2 kr.lt
 replace lr := kr.lt
 replace hb := hb.trans (hv2.mono hsz)
 replace hsz : g ≤ v2.heap.size := Nat.le_trans hsz hv2.size
 clear hv2
 go_wp2_with fail
 go_ret
 exact ⟨rfl, hbase ▸ hb⟩
theorem next_any (l : Lg) (sl : Sl) (h8 : Lg8 l) (hsl : sl.2.1 = l.revs.length) (hb0 : 0 ≤ l.base) (hb1 : l.base ≤ 2147483647) (hrl : l.revs.length ≤ 1000) (size : Nat) (r : Rv) (A : Option Addr) (n c : Nat) (w : World) (hd : RdP w w.heap.size A n c r.2.2) :
 Calls Try.prog 85 #[.agg (lgc l sl), .int .i64 size, .agg #[.int .i64 r.1, .int .i64 r.2.1, .slice A n c]] w fun e w' => e = .returned (.int .i64 (nextE l size r)) ∧ Below w.heap.size w w' := by
 obtain ⟨a, b, d⟩ := r
 simp only at hd ⊢
 by_cases ho : oneE (a, b, d) = 0
 · have hw : 0 ≤ a ∧ a ≤ 7 := by
    unfold oneE at ho
    split at ho
    · exact absurd ho (by decide)
    · simp only at *; omega
   obtain ⟨k, rfl⟩ := Int.eq_ofNat_of_zero_le hw.1
   have hk : k < 8 := by omega
   have hT : l.table.getD k (0, 0) = l.table[k]'(by have := h8.2; omega) := by rw [List.getD_eq_getElem?_getD, List.getElem?_eq_getElem (by have := h8.2; omega)]; rfl
   have hE : nextE l size ((k : Int), b, d) = if b ≤ (l.table[k]'(by have := h8.2; omega)).1 then 10 else if 64 ≤ l.revs.length ∨ 2147483647 ≤ l.base + l.revs.length then 11 else fitsE d size := by
    unfold nextE
    rw [if_neg (by simpa using ho)]
    simp only [Int.toNat_natCast]
    rw [hT]
   rw [hE]
   by_cases h1 : b ≤ (l.table[k]'(by have := h8.2; omega)).1
   · rw [if_pos h1]
     exact next_seq l sl h8 hsl hb0 hb1 hrl size b d A n c w hd k hk ho _ rfl h1
   · rw [if_neg h1]
     by_cases h2 : 64 ≤ l.revs.length ∨ 2147483647 ≤ l.base + l.revs.length
     · rw [if_pos h2]
       exact next_full l sl h8 hsl hb0 hb1 hrl size b d A n c w hd k hk ho _ rfl (by omega) h2
     · rw [if_neg h2]
       exact next_fits l sl h8 hsl hb0 hb1 hrl size b d A n c w hd k hk ho _ rfl (by omega) (by omega) (by omega)
 · have hE : nextE l size (a, b, d) = oneE (a, b, d) := by unfold nextE; rw [if_pos ho]
   rw [hE]
   exact next_one l sl h8 hsl hb0 hb1 hrl size b d A n c w hd a ho

theorem Try.info_rev : (Try.prog.info? 30).map (fun i => (i.zero, i.size, i.bytes)) = some (some (.agg #[.int .i64 0, .int .i64 0, .slice none 0 0]), 3, 40) := by kernel_rfl
theorem rc_append : ∀ (l l' : List Rv) (ss ss' : List Sl), ss.length = l.length → rc (l ++ l') (ss ++ ss') = rc l ss ++ rc l' ss'
 | [], l', [], ss', _ => rfl
 | [], l', _ :: _, ss', h => by simp at h
 | _ :: _, l', [], ss', h => by simp at h
 | r :: l, l', s :: ss, ss', h => by
   simp only [List.cons_append, rc]
   rw [rc_append l l' ss ss' (by simpa using h), List.append_assoc]
structure OwnV (w : World) (B : Nat) (v : Value) (ss : List Sl) (l : List Rv) : Prop where
 len : ss.length = l.length
 row : w.ownsRow B 30 3 v l.length (rc l ss)
 ds : ∀ k (h : k < l.length), OwnP w B (.slice (ss[k]'(by omega)).1 (ss[k]'(by omega)).2.1 (ss[k]'(by omega)).2.2) l[k].2.2 ∧ (∀ p ∈ l[k].2.2, p.2.2.size ≤ 140737488351232)
theorem OwnV.nil (w : World) (B : Nat) : OwnV w B (.slice none 0 0) [] [] := ⟨rfl, World.ownsRow_nil _ _ _ _, fun k h => absurd h (by simp)⟩
theorem OwnV.below {w w' : World} {B : Nat} {v : Value} {ss : List Sl} {l : List Rv} (h : OwnV w B v ss l) (hb : Below w.heap.size w w') : OwnV w' B v ss l :=
 ⟨h.len, own_below h.row hb, fun k hk => ⟨own_below (h.ds k hk).1 hb, (h.ds k hk).2⟩⟩
theorem OwnV.base {w : World} {B B' : Nat} {v : Value} {ss : List Sl} {l : List Rv} (h : OwnV w B v ss l) (hB : B' ≤ B) : OwnV w B' v ss l :=
 ⟨h.len, own_base h.row hB, fun k hk => ⟨own_base (h.ds k hk).1 hB, (h.ds k hk).2⟩⟩
theorem OwnV.only {w w' : World} {B : Nat} {v : Value} {ss : List Sl} {l : List Rv} {S : Nat → Prop} (h : OwnV w B v ss l) (ho : Only w w' S)
 (hr : ∀ k, v.ownBlock = some k → ¬ S k) (hd : ∀ j (hj : j < l.length) k, (Value.slice (ss[j]'(by have := h.len; omega)).1 (ss[j]'(by have := h.len; omega)).2.1 (ss[j]'(by have := h.len; omega)).2.2).ownBlock = some k → ¬ S k) : OwnV w' B v ss l :=
 ⟨h.len, own_only h.row ho hr, fun k hk => ⟨own_only (h.ds k hk).1 ho (hd k hk), (h.ds k hk).2⟩⟩
theorem OwnV.box {w w' : World} {B g : Nat} {v : Value} {ss : List Sl} {l : List Rv} {t : TypeId} {cs : Array Value} (h : OwnV w B v ss l) (hg : Blk w g t cs) (h1 : 30 ≠ t) (h2 : 88 ≠ t) (ho : Only w w' (fun k => k = g)) : OwnV w' B v ss l :=
 h.only ho (fun k hk e => by subst e; exact own_blk_ne h.row hg h1 hk) (fun j hj k hk e => by subst e; exact own_blk_ne (h.ds j hj).1 hg h2 hk)
theorem OwnV.alloc {w : World} {B : Nat} {v : Value} {ss : List Sl} {l : List Rv} (h : OwnV w B v ss l) (o : Obj) : OwnV (w.alloc o) B v ss l := h.below ((Below.refl w.heap.size w).alloc (Nat.le_refl _) o)
theorem OwnV.form {w : World} {B : Nat} {v : Value} {ss : List Sl} {l : List Rv} (h : OwnV w B v ss l) : ∃ A c, v = .slice A l.length c := by
 rcases h.row.2 with ⟨rfl, h0⟩ | ⟨g, cap, cur, rfl, _⟩
 · exact ⟨none, 0, by rw [h0]⟩
 · exact ⟨_, _, rfl⟩
theorem OwnV.rd {w : World} {B n c : Nat} {A : Option Addr} {ss : List Sl} {l : List Rv} (h : OwnV w B (.slice A n c) ss l) : RdR w w.heap.size A n c l := by
 obtain ⟨A', c', e, hr⟩ := Rd.own h.row
 injection e with e1 e2 e3
 subst e1; subst e2; subst e3
 exact ⟨rfl, ss, h.len, hr, fun k hk => rdSx (h.ds k hk).1 (h.ds k hk).2⟩
theorem OwnV.snoc {w w' : World} {B : Nat} {v v' : Value} {ss : List Sl} {l : List Rv} (h : OwnV w B v ss l) (s : Sl) (r : Rv) (hd : OwnP w B (.slice s.1 s.2.1 s.2.2) r.2.2) (ht : ∀ p ∈ r.2.2, p.2.2.size ≤ 140737488351232)
 (ho : w'.ownsRow B 30 3 v' (l.length + 1) (rc l ss ++ [.int .i64 r.1, .int .i64 r.2.1, .slice s.1 s.2.1 s.2.2])) (hg : w.grownBy w' v.ownBlock) : OwnV w' B v' (ss ++ [s]) (l ++ [r]) := by
 have hk : ∀ (u : Value) (d : List Pt), OwnP w B u d → OwnP w' B u d := fun u d hu => own_kept hu hg (own_ne_ hu h.row (by decide))
 refine ⟨by simp [h.len], ?_, fun k hk' => ?_⟩
 · rw [rc_append l [r] ss [s] h.len, List.length_append]
   exact ho
 · rw [List.length_append, List.length_singleton] at hk'
   by_cases hkl : k < l.length
   · have e1 : (l ++ [r])[k]'(by simp; omega) = l[k] := List.getElem_append_left hkl
     have e2 : (ss ++ [s])[k]'(by simp [h.len]; omega) = ss[k]'(by rw [h.len]; exact hkl) := List.getElem_append_left (by rw [h.len]; exact hkl)
     rw [e1, e2]
     exact ⟨hk _ _ (h.ds k hkl).1, (h.ds k hkl).2⟩
   · obtain rfl : k = l.length := by omega
     have e1 : (l ++ [r])[l.length]'(by simp) = r := by simp
     have e2 : (ss ++ [s])[l.length]'(by simp [h.len]) = s := by simp [← h.len]
     rw [e1, e2]
     exact ⟨hk _ _ hd, ht⟩
theorem step_app_rev {ops : Array Oper} {o : Oper} {a : Act} {K : Act → World → Prop} {Q : Exit → Act → World → Prop} {E : Prop} (w : World) (hgd : o.guard = none) (s x : Operand)
 (ho : o.op = .call { callee := .builtin .append, args := #[s, x], argTypes := #[24, 24] })
 (B : Nat) (v : Value) (ss : List Sl) (l : List Rv) (hs : a.eval s = v) (hown : OwnV w B v ss l)
 (r : Rv) (d : Sl) (hd : OwnP w B (.slice d.1 d.2.1 d.2.2) r.2.2) (ht : ∀ p ∈ r.2.2, p.2.2.size ≤ 140737488351232) (c : Nat) (hx : a.eval x = .slice (some ⟨w.heap.size, 0, none⟩) 1 c)
 (hn : l.length ≤ 100000000) (hB : B ≤ w.heap.size)
 (h : ∀ v' w', OwnV w' B v' (ss ++ [d]) (l ++ [r]) → Below B w w' → w.grownBy w' v.ownBlock → (v'.ownBlock = v.ownBlock ∨ v'.ownBlock = some (w.heap.size + 1)) → K (a.put o.dst v') w') :
 if Region.wanted o (yielded ops a.tmps) = true then Oper.wp Try.prog o a (w.alloc (.cells #[.int .i64 r.1, .int .i64 r.2.1, .slice d.1 d.2.1 d.2.2] 30)) K Q else E := by
 obtain ⟨i0, hi, hz0, hz1, hz2⟩ := info_parts Try.info_rev
 refine step_append_any _ hgd s x 24 ho B 30 i0 _ 3 40 Try.underlying24 hi hz0 hz1 hz2 rfl (by omega) v _ _ hs (hown.row.alloc _) (w.heap.size + 1) _ 1 c [.int .i64 r.1, .int .i64 r.2.1, .slice d.1 d.2.1 d.2.2] hx ?_ (by simp [Value.oneCell']) (by simp only [maxLen]; omega) (by omega) (by simp; omega) ?_
 · refine ⟨by simp, fun _ => ⟨_, rfl, by simp, fun j u hj => ?_⟩⟩
   have e1 : (w.alloc (.cells #[.int .i64 r.1, .int .i64 r.2.1, .slice d.1 d.2.1 d.2.2] 30)).heap[w.heap.size]? = some (.cells #[.int .i64 r.1, .int .i64 r.2.1, .slice d.1 d.2.1 d.2.2] 30) := heap_alloc_new w _
   rw [add0, cell_of_row _ _ j _ _ _ e1]
   simpa using hj
 · intro v' w' h2 h3 h4
   have hg := grown_unalloc h3
   exact h v' w' (hown.snoc d r hd ht h2 hg) (below_grown hg hB (own_ge hown.row)) hg (by simpa using h4)
theorem step_app_rev_drew {ops : Array Oper} {o : Oper} {a : Act} {K : Act → World → Prop} {Q : Exit → Act → World → Prop} {E : Prop} (w : World) (hgd : o.guard = none) (s x : Operand)
 (ho : o.op = .call { callee := .builtin .append, args := #[s, x], argTypes := #[24, 24] })
 (B : Nat) (v : Value) (ss : List Sl) (l : List Rv) (hs : a.eval s = v) (hown : OwnV w B v ss l)
 (r : Rv) (d : Sl) (hd : OwnP w B (.slice d.1 d.2.1 d.2.2) r.2.2) (ht : ∀ p ∈ r.2.2, p.2.2.size ≤ 140737488351232) (c : Nat) (hx : a.eval x = .slice (some ⟨w.heap.size, 0, none⟩) 1 c)
 (hn : l.length ≤ 100000000) (hB : B ≤ w.heap.size)
 (h : ∀ v' w', OwnV w' B v' (ss ++ [d]) (l ++ [r]) → Below B w w' → w.grownBy w' v.ownBlock → (v'.ownBlock = v.ownBlock ∨ v'.ownBlock = some (w.heap.size + 1)) → K (a.put o.dst v') w') :
 if Region.wanted o (yielded ops a.tmps) = true then Oper.wp Try.prog o a ((w.alloc (.cells #[.int .i64 r.1, .int .i64 r.2.1, .slice d.1 d.2.1 d.2.2] 30)).drew) K Q else E :=
 step_app_rev w.drew hgd s x ho B v ss l hs ⟨hown.len, hown.row, hown.ds⟩ r d hd ht c hx hn hB fun v' w' h1 h2 h3 h4 =>
  h v' w' h1 ⟨h2.os, h2.tape, h2.output, h2.size, h2.block⟩ ⟨h3.os, h3.tape, h3.output, h3.size, h3.block⟩ h4
def lgin (P : List Value) (l : Lg) (s : Sl) (R : List Value) : Array Value := (P ++ (lgl l s ++ R)).toArray
theorem lgin_at (P : List Value) (l : Lg) (s : Sl) (R : List Value) (o i : Nat) (hP : P.length = o) (h8 : Lg8 l) (hi : i < 38) : (lgin P l s R)[o + i]? = (lgc l s)[i]? := by
 subst hP
 unfold lgin
 rw [List.getElem?_toArray, List.getElem?_append_right (by omega), Nat.add_sub_cancel_left, List.getElem?_append_left (by rw [lgl_len h8]; exact hi), lgc_at]
theorem lgin_set (P : List Value) (l : Lg) (s : Sl) (R : List Value) (o i : Nat) (v : Value) (l' : Lg) (s' : Sl) (hP : P.length = o) (h8 : Lg8 l) (hi : i < 38) (h : (lgc l s).setIfInBounds i v = lgc l' s') : (lgin P l s R).setIfInBounds (o + i) v = lgin P l' s' R := by
 subst hP
 have e : (lgl l s).set i v = lgl l' s' := by
  have := congrArg Array.toList h
  simpa [lgc] using this
 unfold lgin
 rw [List.setIfInBounds_toArray, List.set_append_right _ _ (by omega), Nat.add_sub_cancel_left, List.set_append_left _ _ (by rw [lgl_len h8]; exact hi), e]
theorem lgin_set2 (P : List Value) (l : Lg) (s : Sl) (R : List Value) (o i j : Nat) (v u : Value) (l' : Lg) (s' : Sl) (hP : P.length = o) (h8 : Lg8 l) (hi : i < 38) (hj : j < 38) (h : ((lgc l s).setIfInBounds i v).setIfInBounds j u = lgc l' s') : ((lgin P l s R).setIfInBounds (o + i) v).setIfInBounds (o + j) u = lgin P l' s' R := by
 subst hP
 have e : ((lgl l s).set i v).set j u = lgl l' s' := by
  have := congrArg Array.toList h
  simpa [lgc] using this
 unfold lgin
 simp only [List.setIfInBounds_toArray]
 have e1 : (lgl l s ++ R).set i v = (lgl l s).set i v ++ R := List.set_append_left _ _ (by rw [lgl_len h8]; exact hi)
 have e2 : ((lgl l s).set i v ++ R).set j u = ((lgl l s).set i v).set j u ++ R := List.set_append_left _ _ (by rw [List.length_set, lgl_len h8]; exact hj)
 have e3 : ∀ (X : List Value) (q : Nat) (z : Value), (P ++ X).set (P.length + q) z = P ++ X.set q z := fun X q z => by rw [List.set_append_right _ _ (by omega), Nat.add_sub_cancel_left]
 rw [e3, e3, e1, e2, e]
def addL (l : Lg) (r : Rv) : Lg := { l with revs := l.revs ++ [r], table := l.table.set r.1.toNat (r.2.1, l.base + (l.revs.length + 1 : Nat)) }
theorem addL_8 {l : Lg} (h : Lg8 l) (r : Rv) : Lg8 (addL l r) := ⟨h.1, by simp [addL, h.2]⟩
theorem hadd_any (p o : Nat) (T : TypeId) (P R : List Value) (l : Lg) (sl : Sl) (ss : List Sl) (k : Nat) (b : Int) (d : List Pt) (A : Option Addr) (n c B : Nat) (w : World) (hb : Blk w p T (lgin P l sl R)) (hP : P.length = o) (h8 : Lg8 l) (hT1 : 30 ≠ T) (hT2 : 88 ≠ T)
 (hv : OwnV w B (.slice sl.1 sl.2.1 sl.2.2) ss l.revs) (hB : B ≤ w.heap.size) (hd : OwnP w B (.slice A n c) d) (ht : ∀ q ∈ d, q.2.2.size ≤ 140737488351232) (hk : k < 8) (hlen : l.revs.length ≤ 100000) (hb0 : 0 ≤ l.base) (hb1 : l.base ≤ 2147483647) :
 Calls Try.prog 87 #[.pointer (some ⟨p, o, none⟩), .agg #[.int .i64 k, .int .i64 b, .slice A n c]] w fun e w' => e = .returned (.tuple #[]) ∧ ∃ sl' : Sl, Blk w' p T (lgin P (addL l ((k : Int), b, d)) sl' R) ∧ OwnV w' B (.slice sl'.1 sl'.2.1 sl'.2.2) (ss ++ [(A, n, c)]) (l.revs ++ [((k : Int), b, d)]) ∧
  Only w w' (fun q => q = p ∨ (Value.slice sl.1 sl.2.1 sl.2.2).ownBlock = some q) ∧ ((Value.slice sl'.1 sl'.2.1 sl'.2.2).ownBlock = (Value.slice sl.1 sl.2.1 sl.2.2).ownBlock ∨ ∀ q, (Value.slice sl'.1 sl'.2.1 sl'.2.2).ownBlock = some q → w.heap.size ≤ q) := by
 have hpl := hb.lt
 have hrl := own_lt hv.row
 obtain ⟨Av, cv, hsl⟩ := hv.form
 obtain ⟨m, hm⟩ : ∃ m, l.revs.length = m := ⟨_, rfl⟩
 rw [hm] at hsl hlen
 have hsm : sl.2.1 = m := by injection hsl
 have q35 : (lgin P l sl R)[o + 35]? = some (.slice sl.1 sl.2.1 sl.2.2) := (lgin_at P l sl R o 35 hP h8 (by decide)).trans (lgc_revs h8)
 have hb2 := hb.alloc (.cells #[.int .i64 k, .int .i64 b, .slice A n c] 30)
 have kr := Blk.new w 30 #[.int .i64 k, .int .i64 b, .slice A n c]
 have hv2 := hv.alloc (.cells #[.int .i64 k, .int .i64 b, .slice A n c] 30)
 have hd2 : OwnP (w.alloc (.cells #[.int .i64 k, .int .i64 b, .slice A n c] 30)) B (.slice A n c) d := own_below hd ((Below.refl w.heap.size w).alloc (Nat.le_refl _) _)
 have ho0 : Only w (w.alloc (.cells #[.int .i64 k, .int .i64 b, .slice A n c] 30)) (fun q => q = p ∨ (Value.slice sl.1 sl.2.1 sl.2.2).ownBlock = some q) := Only.alloc _ _
 go_enter Try.func87, Try.ntmps87
 go_upto_region 1 with (fail)
 obtain ⟨g, hg⟩ : ∃ g, w.heap.size = g := ⟨_, rfl⟩
 rw [hg] at kr hpl hB hrl ⊢
 have Hrl := Lib.hid hrl
 clear hrl
 obtain ⟨W, hW⟩ : ∃ W, w.alloc (.cells #[.int .i64 k, .int .i64 b, .slice A n c] 30) = W := ⟨_, rfl⟩
 rw [hW] at hb2 kr hv2 hd2 ho0 ⊢
 have c35 := hb2.cell (o + 35)
 rw [q35] at c35
 have f35 := hb2.frozen (o + 35)
 have c0 := kr.cell 0
 have c1 := kr.cell 1
 have c2 := kr.cell 2
 have lg := kr.lt
 have lp := hb2.lt
 have Hb2 := Lib.hid hb2
 have Hv2 := Lib.hid hv2
 have Hd2 := Lib.hid hd2
 have Ht := Lib.hid ht
 have Hne := Lib.hid (Ne.symm (own_blk_ne hv2.row hb2 hT1))
 have Hln : Hid (l.revs.length ≤ 100000000) := Lib.hid (by rw [hm]; omega)
 have hgW : Hid (g ≤ W.heap.size) := Lib.hid (Nat.le_of_lt lg)
 have HBW : Hid (B ≤ W.heap.size) := Lib.hid (by omega)
 clear hW hb hv hd hb2 hv2 hd2 ht
 go_region_law (first | (refine step_app_rev_drew W rfl (.tmp 8) (.tmp 10) rfl B _ ss l.revs (by simp [Act.eval, Act.put]) Hv2.out ((k : Int), b, d) (A, n, c) Hd2.out Ht.out 1 (by simp [Act.eval, Act.put]) Hln.out HBW.out ?_; intro v1 w1 g1 g2 g3 g4; obtain ⟨A1, c1', rfl⟩ := g1.form; have hb1 := Blk.grown Hb2.out g3 Hne.out; have d35 := hb1.cell (o + 35); have e35 := hb1.frozen (o + 35); have l1 := hb1.lt))
 all_goals
  have T1 := hb1.set_ (o + 35) (.slice A1 (sl.snd.fst + 1) c1')
  rw [lgin_set P l sl R o 35 _ l (A1, sl.snd.fst + 1, c1') hP h8 (by decide) (lgc_set_revs h8 A1 (sl.snd.fst + 1) c1')] at T1
  have kr1 := (kr.grown g3 (fun e => absurd (Hrl.out g e.symm) (Nat.lt_irrefl g))).far (p := ⟨p, o + 35, none⟩) (by simp only; omega) (.slice A1 (sl.snd.fst + 1) c1')
  have hv3 := OwnV.box g1 hb1 hT1 hT2 (Only.setSelf w1 p (o + 35) (.slice A1 (sl.snd.fst + 1) c1'))
  have ho1 : Only W w1 (fun q => q = p ∨ (Value.slice sl.1 sl.2.1 sl.2.2).ownBlock = some q) := (Only.of_grown g3).mono fun q _ h => .inr h
  have ho2 : Only w1 (w1.setCell ⟨p, o + 35, none⟩ (.slice A1 (sl.snd.fst + 1) c1')) (fun q => q = p ∨ (Value.slice sl.1 sl.2.1 sl.2.2).ownBlock = some q) := Only.setCell _ _ _ (.inl rfl)
  have ho3 := (ho0.trans ho1).trans ho2
  obtain ⟨V1, hV1⟩ : ∃ V1, w1.setCell ⟨p, o + 35, none⟩ (.slice A1 (sl.snd.fst + 1) c1') = V1 := ⟨_, rfl⟩
  rw [hV1] at T1 kr1 hv3 ho3 ⊢
  clear hV1 ho1 ho2 hb1 d35 e35 c35 f35 c0 c1 c2 lg lp l1
  have Hg4 := Lib.hid g4
  have Hv3 := Lib.hid hv3
  have Ho3 := Lib.hid ho3
  have T1h := Lib.hid T1
  have hg1 := kr1.lt
  have hp1 := T1.lt
  obtain ⟨t1, t2⟩ := lgc_table (s := (A1, sl.snd.fst + 1, c1')) h8 k hk
  have d1 := T1.cell (o + 1)
  have d35 := T1.cell (o + 35)
  have d2 := T1.cell (o + (19 + k * 2))
  have d3 := T1.cell (o + (19 + k * 2 + 1))
  have f2 := T1.frozen (o + (19 + k * 2))
  have f3 := T1.frozen (o + (19 + k * 2 + 1))
  rw [lgin_at P l _ R o 1 hP h8 (by decide), lgc_base] at d1
  rw [lgin_at P l _ R o 35 hP h8 (by decide), lgc_revs h8] at d35
  rw [lgin_at P l _ R o (19 + k * 2) hP h8 (by omega), t1] at d2
  rw [lgin_at P l _ R o (19 + k * 2 + 1) hP h8 (by omega), t2] at d3
  rw [← Nat.add_assoc] at d2 f2
  rw [← Nat.add_assoc, ← Nat.add_assoc] at d3 f3
  have c0 := kr1.cell 0
  have c1 := kr1.cell 1
  clear g1 g2 g3 g4 hv3 ho3 T1 t1 t2 Hb2 Hv2 Hd2 Ht Hne ho0
  have hk0 : (0 : Int) ≤ (k : Int) := by omega
  have hk8 : (k : Int) < 8 := by omega
  go_upto_region 2 with (fail)
  have hwr : IntKind.i64.wrap (l.base + ((sl.snd.fst : Int) + 1)) = l.base + ((sl.snd.fst : Int) + 1) := IntWalk.i64_in _ (by omega)
  go_still_tail 19, (by kernel_rfl)
  change wpList _ _ _ _ _ V1.drew
  go_wp2_with fail
  go_end0
  have hx : l.base + ((sl.snd.fst : Int) + 1) = l.base + ((l.revs.length + 1 : Nat) : Int) := by omega
  have hLn : (l.revs ++ [((k : Int), b, d)]).length = sl.snd.fst + 1 := by rw [List.length_append, List.length_singleton]; omega
  have hE : (Value.slice A1 (l.revs ++ [((k : Int), b, d)]).length c1') = .slice A1 (sl.snd.fst + 1) c1' := by rw [hLn]
  have U1 := T1h.out.set_ (o + 19 + k * 2) (.int .i64 b)
  have U2 := U1.set_ (o + 19 + k * 2 + 1) (.int .i64 (l.base + ((sl.snd.fst : Int) + 1)))
  have hv4 : OwnV V1 B (.slice A1 (sl.snd.fst + 1) c1') (ss ++ [(A, n, c)]) (l.revs ++ [((k : Int), b, d)]) := hE ▸ Hv3.out
  have hv5 := (hv4.box T1h.out hT1 hT2 (Only.setSelf V1 p (o + 19 + k * 2) (.int .i64 b))).box U1 hT1 hT2 (Only.setSelf _ p (o + 19 + k * 2 + 1) (.int .i64 (l.base + ((sl.snd.fst : Int) + 1))))
  have hz := lgin_set2 P l (A1, sl.snd.fst + 1, c1') R o (19 + k * 2) (19 + k * 2 + 1) _ _ _ _ hP h8 (by omega) (by omega) (lgc_set_table h8 k hk b (l.base + ((sl.snd.fst : Int) + 1)))
  have hadd : lgin P (addL l ((k : Int), b, d)) (A1, sl.snd.fst + 1, c1') R = lgin P { l with table := l.table.set k (b, l.base + ((sl.snd.fst : Int) + 1)) } (A1, sl.snd.fst + 1, c1') R := by
   simp only [addL, Int.toNat_natCast]
   rw [← hx]
   rfl
  rw [← Nat.add_assoc, ← Nat.add_assoc, ← Nat.add_assoc] at hz
  rw [hz, ← hadd] at U2
  have hg4 := Hg4.out
  rw [hE] at hg4
  refine ⟨rfl, A1, sl.snd.fst + 1, c1', U2.drew, ⟨hv5.len, hv5.row, hv5.ds⟩, ?_, ?_⟩
  · exact (Ho3.out.trans ((Only.setCell _ _ _ (.inl rfl)).trans (Only.setCell _ _ _ (.inl rfl)))).trans (Only.drew _)
  · rcases hg4 with h1 | h1
    · exact .inl h1
    · refine .inr fun q hq => ?_
      rw [h1] at hq
      have hgW := hgW.out
      have hq2 := Option.some.inj hq
      have h3 : W.drew.heap.size = W.heap.size := rfl
      omega
end Go.Proofs.Ytokngfinnieccaa
