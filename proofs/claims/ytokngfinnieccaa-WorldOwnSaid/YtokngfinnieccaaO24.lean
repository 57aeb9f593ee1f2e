/- A world, its seats' blocks and its archive's told apart: say and Edit. Contract of world.Up. -/
import Derived.Test.YtokngfinnieccaaO23
namespace Go.Proofs.Ytokngfinnieccaa
open Go.ChangeShapes Go.WideShapes Go.RowKit
set_option linter.unusedVariables false
set_option linter.unusedSimpArgs false
set_option maxRecDepth 100000
set_option maxHeartbeats 4000000
def WdS (w : World) (P F : Nat → Prop) (sq q : Nat) (s : Sh) (X : List St) (put edits : Int) : Prop :=
 ∃ (gs cap : Nat) (E : List (Sl × Sl × Sl)) (sp : List Value), WdM w F q sq gs cap E sp s X put edits ∧ P q ∧ P gs ∧ ∀ (i : Nat) a, E[i]? = some a → ∀ g, upB a.2.2 = some g → P g
theorem WdS.mono {w : World} {P P' F : Nat → Prop} {sq q : Nat} {s : Sh} {X : List St} {put edits : Int} (h : WdS w P F sq q s X put edits) (hP : ∀ k, k < w.heap.size → P k → P' k) : WdS w P' F sq q s X put edits := by
 obtain ⟨gs, cap, E, sp, h1, h2, h3, h4⟩ := h
 refine ⟨gs, cap, E, sp, h1, hP _ h1.kq.lt h2, hP _ h1.kg.lt h3, fun i a ha g hg => hP g ?_ (h4 i a ha g hg)⟩
 obtain ⟨x, hx⟩ : ∃ x, X[i]? = some x := ⟨_, List.getElem?_eq_getElem (by rw [← h1.le]; exact (List.getElem?_eq_some_iff.1 ha).1)⟩
 obtain ⟨_, cur, hc⟩ := upB_blk (h1.ss i x a hx ha).u hg
 exact hc.lt
theorem WdS.toP {w : World} {P F : Nat → Prop} {sq q : Nat} {s : Sh} {X : List St} {put edits : Int} (h : WdS w P F sq q s X put edits) : WdP w (fun _ => True) q s X put edits := by
 obtain ⟨gs, cap, E, sp, h1, h2⟩ := h
 exact ⟨F, sq, gs, cap, E, sp, h1, fun _ _ => trivial, trivial, trivial, fun _ _ _ _ _ => trivial⟩
theorem wsay_S (w : World) (P F : Nat → Prop) (sq q : Nat) (s : Sh) (X : List St) (put edits : Int) (h : WdS w P F sq q s X put edits) (i : Nat) (x : St) (hx : X[i]? = some x) (hf : x.c.fly = true) (hup : x.up = []) (hck : CkOk x.c) :
 Calls Try.prog 73 #[.pointer (some ⟨q, 0, none⟩), .int .i64 i] w fun e w' => e = .returned (.tuple #[]) ∧ WdS w' (grow P w w') F sq q s (X.set i (sayS x)) put edits ∧ Only w w' P := by
 obtain ⟨gs, cap, E, sp, h, hBq, hBg, hBu⟩ := h
 obtain ⟨N, hN⟩ : ∃ N, X.length = N := ⟨_, rfl⟩
 have hkq := h.kq
 have hc1 := h.c1
 have hc2 := h.c2
 rw [hN] at hkq hc1
 have hcp : (N : Int) ≤ (cap : Int) := by omega
 have hcm : (cap : Int) ≤ 9223372036854775807 := by simp only [maxLen] at hc2; omega
 have hN0 : (0 : Int) ≤ (N : Int) := by omega
 have q0 : w.cell? ⟨q, 0, none⟩ = some (.pointer (some ⟨sq, 0, none⟩)) := hkq.cell 0
 have q1 : w.cell? ⟨q, 1, none⟩ = some (.slice (some ⟨gs, 0, none⟩) N cap) := hkq.cell 1
 have lq := hkq.lt
 have lg := h.kg.lt
 have hiN : i < N := by rw [← hN]; exact (List.getElem?_eq_some_iff.1 hx).1
 have hi0 : (0 : Int) ≤ (i : Int) := by omega
 have hiN' : (i : Int) < (N : Int) := by omega
 obtain ⟨⟨⟨a1, a2, a3⟩, ⟨b1, b2, b3⟩, ⟨u1, u2, u3⟩⟩, ha, hs, hat⟩ := h.at_ hx
 obtain ⟨t1, t2⟩ := ckok_txt hck
 obtain ⟨n1, n2⟩ := ckok_len hck
 have hc_ := cout_good x.c (a1, a2, a3) (b1, b2, b3) w hck (rdS_ hs.s.1 t1) (rdS_ hs.h.1 t2) (by have := own_n hs.s.1; simp only at this ⊢; omega) hf
 unfold mgv clv clc at hc_
 simp only at hc_
 have Hc_ := Lib.hid hc_
 have Hr := Lib.hid (client_rng hat)
 have HM := Lib.hid h
 have HX := Lib.hid hx
 have HA := Lib.hid ha
 have HS := Lib.hid hs
 have HBq := Lib.hid hBq
 have HBg := Lib.hid hBg
 have HBu := Lib.hid hBu
 have HUP := Lib.hid hup
 have HNN := Lib.hid hN
 have hrow : u2 = 0 ∧ u3 ≤ maxLen ∧ (0 < u3 → ∃ g o cur, u1 = some ⟨g, o, none⟩ ∧ ¬ F g ∧ Blk w g 82 cur ∧ o + u3 * 4 ≤ cur.size) := by
  have hu := hs.u
  rcases hu.2 with ⟨_, e2, e3⟩ | ⟨m, d_, g_, o_, cur_, e1, _⟩
  · exact ⟨e2, hu.1, e3⟩
  · rw [hup] at e1; cases e1
 obtain ⟨hu2, hu3, hrow⟩ := hrow
 subst hu2
 have HU3 := Lib.hid hu3
 have HROW := Lib.hid hrow
 clear hc_ h hx ha hs hat hkq hc1 hc2 hN hBq hBg hBu hup hck hf t1 t2 n1 n2 hu3 hrow
 go_enter Try.func73, Try.ntmps73
 go_wp2_with (first | (refine wpList_load_mid rfl _ (.tmp 13) rfl gs (i * 10) rfl [.int .i64 x.c.who, .int .i64 x.c.rev, .int .i64 x.c.seq, .string x.c.text, .bool x.c.fly, .slice a1 a2 a3, .bool x.c.wait, .slice b1 b2 b3] _ Hr.out Try.underlying92 rfl client_info ?_))
 refine Hc_.out.mono ?_
 rintro e w1 ⟨⟨d1, d2, d3⟩, rfl, hod, hb1⟩
 simp only at hod
 have HOD := Lib.hid hod
 have Hb1 := Lib.hid hb1
 clear Hc_ Hr hod hb1 q0 q1 lq lg
 go_upto_region 1 with (fail)
 have kz := Blk.new w1 82 #[.int .i64 x.c.rev, .int .i64 x.c.who, .int .i64 x.c.seq, .slice d1 d2 d3]
 have hal := (Below.refl w1.heap.size w1).alloc (Nat.le_refl _) (.cells #[.int .i64 x.c.rev, .int .i64 x.c.who, .int .i64 x.c.seq, .slice d1 d2 d3] 82)
 obtain ⟨V, hV⟩ : ∃ V, w1.alloc (.cells #[.int .i64 x.c.rev, .int .i64 x.c.who, .int .i64 x.c.seq, .slice d1 d2 d3] 82) = V := ⟨_, rfl⟩
 rw [hV] at kz hal ⊢
 obtain ⟨z, hz⟩ : ∃ z, w1.heap.size = z := ⟨_, rfl⟩
 have hbV : Below w.heap.size w V := Hb1.out.trans (hal.mono Hb1.out.size)
 have hod2 : DtW V F (d1, d2, d3) x.c.sent := ⟨(own_base (own_below HOD.out hal) (Nat.zero_le _)), fun k hk hf => by
  have h1 := own_ge HOD.out k hk
  have h2 := HM.out.flt k hf
  omega⟩
 have hMV := HM.out.below hbV
 rw [hz] at kz ⊢
 have HOD2 := Lib.hid hod2
 have HMV := Lib.hid hMV
 have HBV := Lib.hid hbV
 have hsV := HMV.out.ss i x _ HX.out HA.out
 have hrV : 0 < u3 → ∃ g o cur, u1 = some ⟨g, o, none⟩ ∧ Blk V g 82 cur ∧ o + u3 * 4 ≤ cur.size := fun hp => by
  obtain ⟨g, o, cur, e1, _, e3, e4⟩ := HROW.out hp
  exact ⟨g, o, cur, e1, e3.below hbV e3.lt, e4⟩
 have HRV := Lib.hid hrV
 have hne : ¬ (0 < u3 ∧ ∃ a, u1 = some a ∧ a.block = gs) := fun hk => by
  obtain ⟨_, c, hc⟩ := upB_blk hsV.u (upB_of hk)
  exact Blk.ne_ hc HMV.out.kg (by decide) rfl
 have HNE := Lib.hid hne
 have hnq : ¬ (0 < u3 ∧ ∃ a, u1 = some a ∧ a.block = q) := fun hk => by
  obtain ⟨_, c, hc⟩ := upB_blk hsV.u (upB_of hk)
  exact Blk.ne_ hc HMV.out.kq (by decide) rfl
 have HNQ := Lib.hid hnq
 have row8 : (rowW X E ++ sp).toArray[i * 10 + 8]? = some (.slice u1 0 u3) := by
  obtain ⟨a, e1, _, e2⟩ := HMV.out.at_ HX.out
  rw [HA.out] at e1
  injection e1 with e1
  subst e1
  exact (HMV.out.kg.cell _).symm.trans (e2 8 (by decide))
 have HR8 := Lib.hid row8
 have q1 : V.cell? ⟨q, 1, none⟩ = some (.slice (some ⟨gs, 0, none⟩) N cap) := (HMV.out.kq.cell 1).trans (by rw [HNN.out]; rfl)
 have lq := HMV.out.kq.lt
 have lg := HMV.out.kg.lt
 have e8 : V.cell? ⟨gs, i * 10 + 8, none⟩ = some (.slice u1 0 u3) := (HMV.out.kg.cell _).trans row8
 have c0 := kz.cell 0
 have c1 := kz.cell 1
 have c2 := kz.cell 2
 have c3 := kz.cell 3
 have lz := kz.lt
 clear hal hV hz hbV hod2 hMV hsV hrV hne hnq row8 kz HOD Hb1 HROW
 go_region_law (first | (refine step_app_up_drew V rfl (.tmp 30) (.tmp 32) rfl u1 u3 (by simp [Act.eval, Act.put]) HU3.out HRV.out (.int .i64 x.c.rev) (.int .i64 x.c.who) (.int .i64 x.c.seq) (.slice d1 d2 d3) (by simp [Value.oneCell']) 1 (by simp [Act.eval, Act.put]) ?_; intro g o' u3' cur v1 k1 k2 k3 k4 k5 k6 k7; have kg1 := HMV.out.kg.only k6 HNE.out; have d8 := kg1.cell (i * 10 + 8); rw [HR8.out] at d8; have f8 := kg1.frozen (i * 10 + 8); have l8 := kg1.lt; have kq1 := HMV.out.kq.only k6 HNQ.out; have dq1 : v1.cell? ⟨q, 1, none⟩ = some (.slice (some ⟨gs, 0, none⟩) N cap) := (kq1.cell 1).trans (by rw [HNN.out]; rfl); have lq1 := kq1.lt))
 all_goals
  go_end0
  obtain ⟨r1, r2, r3⟩ := HMV.out.say HX.out HA.out HUP.out HOD2.out k1 k2 k3 k4 k5 k6 k7
  have hwV := HBV.out.size
  have hoV : Only w (v1.setCell ⟨gs, i * 10 + 8, none⟩ (.slice (some ⟨g, o', none⟩) 1 u3')) P := (Only.of_below HBV.out).trans (r3.mono fun k _ hk => by
   rcases hk with hk | hk
   · rw [hk]; exact HBg.out
   · exact HBu.out _ _ HA.out k hk)
  refine ⟨rfl, ⟨gs, cap, _, sp, r1, .inl HBq.out, .inl HBg.out, ?_⟩, hoV⟩
  intro j b hb z hz
  by_cases hj : j = i
  · have hjX : j < (X.set i (sayS x)).length := by rw [List.length_set, hj]; exact (List.getElem?_eq_some_iff.1 HX.out).1
    obtain ⟨_, cur9, hc9⟩ := upB_blk (r1.ss j _ b (List.getElem?_eq_getElem hjX) hb).u hz
    subst hj
    rw [List.getElem?_set_self (by rw [HMV.out.le]; exact (List.getElem?_eq_some_iff.1 HX.out).1)] at hb
    injection hb with hb
    subst hb
    rcases r2 z hz with h9 | h9
    · exact .inl (HBu.out _ _ HA.out z h9)
    · exact .inr ⟨by omega, hc9.lt⟩
  · rw [List.getElem?_set_ne (Ne.symm hj)] at hb
    exact .inl (HBu.out j b hb z hz)
theorem wedit_S (w : World) (P F : Nat → Prop) (sq q : Nat) (s : Sh) (X : List St) (put edits : Int) (h : WdS w P F sq q s X put edits) (i : Nat) (x : St) (hx : X[i]? = some x) (hck : CkOk x.c) (hup : x.c.fly = false → x.up = []) (hsq : x.c.fly = false → x.c.seq ≠ 2147483647) (hput : 0 ≤ put ∧ put ≤ 500) (hed : 0 ≤ edits ∧ edits ≤ 64) (d : List Pt) (A : Option Addr) (n c : Nat) (hd : RdQ w P A n c d) :
 Calls Try.prog 23 #[.pointer (some ⟨q, 0, none⟩), .int .i64 i, .slice A n c] w fun e w' =>
  (∃ EE : Int, e = .returned (.int .i64 EE) ∧ EE ≠ 0 ∧ WdS w' (grow P w w') F sq q s X put edits ∧ Only w w' P ∧ ¬ (doE d x.c.text = 0 ∧ edits < 64 ∧ put + (nP (units d) : Int) ≤ 500)) ∨
  (e = .returned (.int .i64 0) ∧ (doE d x.c.text = 0 ∧ edits < 64 ∧ put + (nP (units d) : Int) ≤ 500) ∧ WdS w' (grow P w w') F sq q s (X.set i (editS x d)) (put + (nP (units d) : Int)) (edits + 1) ∧ Only w w' P) := by
 obtain ⟨gs, cap, E, sp, h, hPq, hPg, hPu⟩ := h
 obtain ⟨N, hN⟩ : ∃ N, X.length = N := ⟨_, rfl⟩
 have hkq := h.kq
 have hc1 := h.c1
 have hc2 := h.c2
 rw [hN] at hkq hc1
 have hcp : (N : Int) ≤ (cap : Int) := by omega
 have hcm : (cap : Int) ≤ 9223372036854775807 := by simp only [maxLen] at hc2; omega
 have hN0 : (0 : Int) ≤ (N : Int) := by omega
 have q0 : w.cell? ⟨q, 0, none⟩ = some (.pointer (some ⟨sq, 0, none⟩)) := hkq.cell 0
 have q1 : w.cell? ⟨q, 1, none⟩ = some (.slice (some ⟨gs, 0, none⟩) N cap) := hkq.cell 1
 have lq := hkq.lt
 have lg := h.kg.lt
 have hiN : i < N := by rw [← hN]; exact (List.getElem?_eq_some_iff.1 hx).1
 have hi0 : (0 : Int) ≤ (i : Int) := by omega
 have hiN' : (i : Int) < (N : Int) := by omega
 obtain ⟨⟨⟨a1, a2, a3⟩, ⟨b1, b2, b3⟩, ⟨u1, u2, u3⟩⟩, ha, hs, hat⟩ := h.at_ hx
 obtain ⟨ct1, ct2⟩ := ckok_txt hck
 obtain ⟨cn1, cn2⟩ := ckok_len hck
 have Hr := Lib.hid (client_rng hat)
 have HM := Lib.hid h
 have HX := Lib.hid hx
 have HA := Lib.hid ha
 have HPq := Lib.hid hPq
 have HPg := Lib.hid hPg
 have HPu := Lib.hid hPu
 have HNN := Lib.hid hN
 have HCK := Lib.hid hck
 have HUP := Lib.hid hup
 have HSQ := Lib.hid hsq
 have HD := Lib.hid hd
 have HCT1 := Lib.hid ct1
 have HCT2 := Lib.hid ct2
 have HCN1 := Lib.hid cn1
 have HCN2 := Lib.hid cn2
 have HPT := Lib.hid hput
 have HED := Lib.hid hed
 have HFT := Lib.hid (fun w' (hb : Below w.heap.size w w') => fits_any d A n c w'.heap.size x.c.text.size w' (HD.out.1.step hb) (Nat.le_refl _))
 clear h hx ha hs hat hkq hc1 hc2 hN hPq hPg hPu hup hck ct1 ct2 cn1 cn2 hd hsq hput hed
 go_enter Try.func23, Try.ntmps23
 go_upto_region 4 with (first | (refine wpList_load_mid rfl _ (.tmp 28) rfl gs (i * 10) rfl [.int .i64 x.c.who, .int .i64 x.c.rev, .int .i64 x.c.seq, .string x.c.text, .bool x.c.fly, .slice a1 a2 a3, .bool x.c.wait, .slice b1 b2 b3] _ Hr.out Try.underlying92 rfl client_info ?_) | (refine wpList_store_blk rfl _ (.tmp 7) (.tmp 29) rfl w.heap.size #[.int .i64 x.c.who, .int .i64 x.c.rev, .int .i64 x.c.seq, .string x.c.text, .bool x.c.fly, .slice a1 a2 a3, .bool x.c.wait, .slice b1 b2 b3] rfl rfl _ _ (Blk.new w _ _) client_info rfl (by simp [Value.oneCell']) ?_))
 have kz := (Blk.new w 92 #[.int .i64 0, .int .i64 0, .int .i64 0, .string ⟨#[]⟩, .bool false, .slice none 0 0, .bool false, .slice none 0 0]).row #[.int .i64 x.c.who, .int .i64 x.c.rev, .int .i64 x.c.seq, .string x.c.text, .bool x.c.fly, .slice a1 a2 a3, .bool x.c.wait, .slice b1 b2 b3]
 have hal := below_setRow ((Below.refl w.heap.size w).alloc (Nat.le_refl _) (.cells #[.int .i64 0, .int .i64 0, .int .i64 0, .string ⟨#[]⟩, .bool false, .slice none 0 0, .bool false, .slice none 0 0] 92)) w.heap.size #[.int .i64 x.c.who, .int .i64 x.c.rev, .int .i64 x.c.seq, .string x.c.text, .bool x.c.fly, .slice a1 a2 a3, .bool x.c.wait, .slice b1 b2 b3] (Nat.le_refl _)
 obtain ⟨V0, hV0⟩ : ∃ V0, (w.alloc (.cells #[.int .i64 0, .int .i64 0, .int .i64 0, .string ⟨#[]⟩, .bool false, .slice none 0 0, .bool false, .slice none 0 0] 92)).setRow w.heap.size #[.int .i64 x.c.who, .int .i64 x.c.rev, .int .i64 x.c.seq, .string x.c.text, .bool x.c.fly, .slice a1 a2 a3, .bool x.c.wait, .slice b1 b2 b3] = V0 := ⟨_, rfl⟩
 rw [hV0] at kz hal ⊢
 obtain ⟨z, hz⟩ : ∃ z, w.heap.size = z := ⟨_, rfl⟩
 rw [hz] at kz ⊢
 have HZ := Lib.hid hz
 have KZ := Lib.hid kz
 have HB0 := Lib.hid hal
 have z3 := kz.cell 3
 have lz := kz.lt
 clear q0 q1 lq lg Hr hV0 hz kz hal
 have hft := HFT.out V0 HB0.out
 obtain ⟨FE, hFE⟩ : ∃ FE, fitsE d x.c.text.size = FE := ⟨_, rfl⟩
 rw [hFE] at hft
 have Hft := Lib.hid hft
 have HFE := Lib.hid hFE
 clear hft hFE HFT
 go_wp2_with fail
 refine Hft.out.mono ?_
 rintro e V ⟨rfl, hbV⟩
 have HBV := Lib.hid (HB0.out.trans (hbV.mono HB0.out.size))
 have HM_ := Lib.hid (HM.out.below HBV.out)
 have KZ_ := Lib.hid (KZ.out.below hbV KZ.out.lt)
 have HD_ := Lib.hid (HD.out.below HBV.out)
 clear HM KZ HD HB0 hbV z3 lz Hft
 have HM := HM_
 have KZ := KZ_
 have HD := HD_
 clear HM_ KZ_ HD_
 have hbad : ∀ (w' : World), Below V.heap.size V w' → WdS w' (grow P w w') F sq q s X put edits ∧ Only w w' P := fun w' hb => ⟨⟨gs, cap, E, sp, HM.out.below hb, .inl HPq.out, .inl HPg.out, fun i a ha g hg => .inl (HPu.out i a ha g hg)⟩, Only.of_below (HBV.out.trans (hb.mono HBV.out.size))⟩
 have HBAD := Lib.hid hbad
 clear hbad
 by_cases hE0 : FE = 0
 case neg =>
  have hE1 : (FE != 0) = true := by simpa using hE0
  go_wp2_with fail
  go_ret
  exact .inl ⟨FE, rfl, hE0, (HBAD.out V (Below.refl _ _)).1, (HBAD.out V (Below.refl _ _)).2, fun hh => hE0 (by rw [← HFE.out]; exact hh.1)⟩
 subst hE0
 have hdo : doE d x.c.text = 0 := HFE.out
 have HDO := Lib.hid hdo
 have hchk := (do_chk hdo).1
 have HPU0 := Lib.hid (fun w' (hb : Below V.heap.size V w') => wputs_any d A n c w'.heap.size w' (HD.out.1.step hb) (Nat.le_refl _) hchk)
 have hPb : nP (units d) ≤ 500 := by have := nP_le (units d); have := (chk_parts hchk).2.2.2.2.1; omega
 obtain ⟨PP, hPP⟩ : ∃ PP, nP (units d) = PP := ⟨_, rfl⟩
 rw [hPP] at HPU0 hPb
 have HPP := Lib.hid hPP
 have HCH := Lib.hid hchk
 have q3 : V.cell? ⟨q, 3, none⟩ = some (.int .i64 edits) := HM.out.kq.cell 3
 have lq := HM.out.kq.lt
 clear hdo hchk hPP
 by_cases h64 : edits = 64
 case pos =>
  subst h64
  go_wp2_with fail
  go_ret
  exact .inl ⟨11, rfl, by decide, (HBAD.out V (Below.refl _ _)).1, (HBAD.out V (Below.refl _ _)).2, fun hh => by have := hh.2.1; omega⟩
 have h64' : (edits == 64) = false := by simpa using h64
 have hpt0 := HPT.out.1
 have hpt1 := HPT.out.2
 have hwp : IntKind.i64.wrap (put + ((PP : Nat) : Int)) = put + ((PP : Nat) : Int) := IntWalk.i64_in _ (by omega)
 go_upto_region 9 with (fail)
 clear q3 lq
 by_cases h500 : 500 < put + ((PP : Nat) : Int)
 case pos =>
  have hd5 : decide (500 < put + ((PP : Nat) : Int)) = true := decide_eq_true h500
  refine wp_region_held (S := fun w' => w'.cell? ⟨q, 2, none⟩ = some (.int .i64 put) ∧ Below V.heap.size V w') (by kernel_rfl) ?_
  have hS : V.drew.cell? ⟨q, 2, none⟩ = some (.int .i64 put) ∧ Below V.heap.size V V.drew := ⟨HM.out.kq.drew.cell 2, Below.drew (Below.refl _ _)⟩
  change wpAnyH _ _ _ _ _ _ _ _ V.drew
  refine tkZ 43 0 rfl rfl (.pointer (some ⟨q, 0, none⟩)) (.inl ⟨rfl, fun w' h' => by go_simp⟩) hS ?_
  simp only [Act.put, zA, zB, zC]
  refine tkZ 44 1 rfl rfl (.pointer (some ⟨q, 0, none⟩)) (.inl ⟨rfl, fun w' h' => by go_simp⟩) hS ?_
  simp only [Act.put, zA, zB, zC]
  refine tkZ 45 2 rfl rfl (.pointer (some ⟨q, 2, none⟩)) (.inl ⟨rfl, fun w' h' => by go_simp⟩) hS ?_
  simp only [Act.put, zA, zB, zC]
  refine tkZ 46 3 rfl rfl (.int .i64 put) (.inl ⟨rfl, fun w' h' => by obtain ⟨h1, -⟩ := h'; go_simp⟩) hS ?_
  simp only [Act.put, zA, zB, zC]
  refine tkZ 47 4 rfl rfl (.slice A n c) (.inl ⟨rfl, fun w' h' => by go_simp⟩) hS ?_
  simp only [Act.put, zA, zB, zC]
  have hcc_ := HPU0.out V.drew (Below.drew (Below.refl _ _))
  refine wpAnyH_all (rs := [5]) (by kernel_rfl) (List.cons_ne_nil _ _) (fun i5 hi5 => ?_)
  obtain rfl := List.mem_singleton.1 hi5
  refine wpOp_enter 48 rfl rfl rfl 71 #[.slice A n c] (by go_simp) (.int .i64 (PP : Nat)) (fun w' => Below V.drew.heap.size V.drew w') hcc_ ?_
  intro v0 hv0
  simp only [Act.put, zA, zB, zC]
  clear hcc_
  have hv0b : Below V.heap.size V v0 := (Below.drew (Below.refl _ _)).trans hv0
  have hSv0 : v0.cell? ⟨q, 2, none⟩ = some (.int .i64 put) ∧ Below V.heap.size V v0 := ⟨(HM.out.kq.below hv0b HM.out.kq.lt).cell 2, hv0b⟩
  refine ⟨hSv0, ?_⟩
  refine tkZ 49 6 rfl rfl (.int .i64 (put + (PP : Nat))) (.inl ⟨rfl, fun w' h' => by go_simp⟩) hSv0 ?_
  simp only [Act.put, zA, zB, zC]
  refine tkZ 50 7 rfl rfl (.bool true) (.inl ⟨rfl, fun w' h' => by go_simp⟩) hSv0 ?_
  simp only [Act.put, zA, zB, zC]
  refine wpAnyH_done (by kernel_rfl) ?_ _
  clear hS hSv0
  go_wp2_with fail
  go_ret
  have hb9 := hv0b
  exact .inl ⟨2, rfl, by decide, (HBAD.out v0 hb9).1, (HBAD.out v0 hb9).2, fun hh => by have := hh.2.2; rw [HPP.out] at this; omega⟩
 have hd5 : decide (500 < put + ((PP : Nat) : Int)) = false := decide_eq_false h500
 refine wp_region_held (S := fun w' => w'.cell? ⟨q, 2, none⟩ = some (.int .i64 put) ∧ Below V.heap.size V w') (by kernel_rfl) ?_
 have hS : V.drew.cell? ⟨q, 2, none⟩ = some (.int .i64 put) ∧ Below V.heap.size V V.drew := ⟨HM.out.kq.drew.cell 2, Below.drew (Below.refl _ _)⟩
 change wpAnyH _ _ _ _ _ _ _ _ V.drew
 refine tkZ 43 0 rfl rfl (.pointer (some ⟨q, 0, none⟩)) (.inl ⟨rfl, fun w' h' => by go_simp⟩) hS ?_
 simp only [Act.put, zA, zB, zC]
 refine tkZ 44 1 rfl rfl (.pointer (some ⟨q, 0, none⟩)) (.inl ⟨rfl, fun w' h' => by go_simp⟩) hS ?_
 simp only [Act.put, zA, zB, zC]
 refine tkZ 45 2 rfl rfl (.pointer (some ⟨q, 2, none⟩)) (.inl ⟨rfl, fun w' h' => by go_simp⟩) hS ?_
 simp only [Act.put, zA, zB, zC]
 refine tkZ 46 3 rfl rfl (.int .i64 put) (.inl ⟨rfl, fun w' h' => by obtain ⟨h1, -⟩ := h'; go_simp⟩) hS ?_
 simp only [Act.put, zA, zB, zC]
 refine tkZ 47 4 rfl rfl (.slice A n c) (.inl ⟨rfl, fun w' h' => by go_simp⟩) hS ?_
 simp only [Act.put, zA, zB, zC]
 have hcc_ := HPU0.out V.drew (Below.drew (Below.refl _ _))
 refine wpAnyH_all (rs := [5]) (by kernel_rfl) (List.cons_ne_nil _ _) (fun i5 hi5 => ?_)
 obtain rfl := List.mem_singleton.1 hi5
 refine wpOp_enter 48 rfl rfl rfl 71 #[.slice A n c] (by go_simp) (.int .i64 (PP : Nat)) (fun w' => Below V.drew.heap.size V.drew w') hcc_ ?_
 intro v0 hv0
 simp only [Act.put, zA, zB, zC]
 clear hcc_
 have hv0b : Below V.heap.size V v0 := (Below.drew (Below.refl _ _)).trans hv0
 have hSv0 : v0.cell? ⟨q, 2, none⟩ = some (.int .i64 put) ∧ Below V.heap.size V v0 := ⟨(HM.out.kq.below hv0b HM.out.kq.lt).cell 2, hv0b⟩
 refine ⟨hSv0, ?_⟩
 refine tkZ 49 6 rfl rfl (.int .i64 (put + (PP : Nat))) (.inl ⟨rfl, fun w' h' => by go_simp⟩) hSv0 ?_
 simp only [Act.put, zA, zB, zC]
 refine tkZ 50 7 rfl rfl (.bool false) (.inl ⟨rfl, fun w' h' => by go_simp⟩) hSv0 ?_
 simp only [Act.put, zA, zB, zC]
 refine wpAnyH_done (by kernel_rfl) ?_ _
 clear hS hSv0
 have HBAD2 := HBAD
 have HBV2 := Lib.hid (HBV.out.trans (hv0b.mono HBV.out.size))
 have HM2 := Lib.hid (HM.out.below hv0b)
 have KZ2 := Lib.hid (KZ.out.below hv0b KZ.out.lt)
 have HD2 := Lib.hid (HD.out.below hv0b)
 clear HM KZ HD HBV hv0 hv0b HPU0 HBAD HBAD2 hd5
 have q3 : v0.cell? ⟨q, 3, none⟩ = some (.int .i64 edits) := HM2.out.kq.cell 3
 have f3 := HM2.out.kq.frozen 3
 have lq := HM2.out.kq.lt
 have hed0 := HED.out.1
 have hed1 := HED.out.2
 have hwe : IntKind.i64.wrap (edits + 1) = edits + 1 := IntWalk.i64_in _ (by omega)
 go_upto_region 12 with (fail)
 have ho1 := Only.setSelf v0 q 3 (.int .i64 (edits + 1))
 have kq1 := HM2.out.kq.set_ 3 (.int .i64 (edits + 1))
 have kq1 : Blk (v0.setCell ⟨q, 3, none⟩ (.int .i64 (edits + 1))) q 115 (wdc sq gs X.length cap put (edits + 1)) := kq1
 have HM3 := Lib.hid (HM2.out.box ho1 kq1)
 have HO1 : Hid (Only w (v0.setCell ⟨q, 3, none⟩ (.int .i64 (edits + 1))) P) := Lib.hid ((Only.of_below HBV2.out).trans (ho1.mono fun k _ hk => by rw [hk]; exact HPq.out))
 have KZ3 := Lib.hid (KZ2.out.only ho1 (Blk.ne_ KZ2.out HM2.out.kq (by decide)))
 have hzs : w.heap.size ≤ v0.heap.size := HBV2.out.size
 have HD3 := Lib.hid (HD2.out.only (ho1.mono fun k _ hk => by rw [hk]; exact HPq.out))
 obtain ⟨W1, hW1⟩ : ∃ W1, v0.setCell ⟨q, 3, none⟩ (.int .i64 (edits + 1)) = W1 := ⟨_, rfl⟩
 rw [hW1] at HM3 HO1 KZ3 HD3 ⊢
 clear q3 f3 lq HM2 KZ2 HD2 HBV2 ho1 kq1 hW1 hzs
 have HQ := Lib.hid (HM3.out.kq)
 have HPU := Lib.hid (fun w' (hb : Below W1.heap.size W1 w') => wputs_any d A n c w'.heap.size w' (HD3.out.1.step hb) (Nat.le_refl _) HCH.out)
 rw [HPP.out] at HPU
 refine wp_region_join (S := fun w' => True) (fun a a' w' => a' = (((((((((a.put (some 58) (.pointer (some ⟨q, 0, none⟩))).put (some 59) (.pointer (some ⟨q, 0, none⟩))).put (some 60) (.pointer (some ⟨q, 2, none⟩))).put (some 61) (.int .i64 put)).put (some 62) (.slice A n c)).put (some 63) (.int .i64 (PP : Nat))).put (some 64) (.int .i64 (put + (PP : Nat)))).put (some 65) (.pointer (some ⟨q, 0, none⟩))).put (some 66) (.pointer (some ⟨q, 2, none⟩))) ∧ ∃ v1 : World, Below W1.heap.size W1 v1 ∧ w' = v1.setCell ⟨q, 2, none⟩ (.int .i64 (put + (PP : Nat)))) (by kernel_rfl) ?_ ?_
 · change wpAnyH _ _ _ _ _ _ _ _ W1.drew
   have p2 : W1.drew.cell? ⟨q, 2, none⟩ = some (.int .i64 put) := HQ.out.cell 2
   have lqd : q < W1.drew.heap.size := HQ.out.lt
   refine tkZ 58 0 rfl rfl (.pointer (some ⟨q, 0, none⟩)) (.inl ⟨rfl, fun w' h' => by go_simp⟩) trivial ?_
   simp only [Act.put, zA, zB, zC]
   refine tkZ 59 1 rfl rfl (.pointer (some ⟨q, 0, none⟩)) (.inl ⟨rfl, fun w' h' => by go_simp⟩) trivial ?_
   simp only [Act.put, zA, zB, zC]
   refine tkZ 60 2 rfl rfl (.pointer (some ⟨q, 2, none⟩)) (.inl ⟨rfl, fun w' h' => by go_simp⟩) trivial ?_
   simp only [Act.put, zA, zB, zC]
   refine tkZ 62 4 rfl rfl (.slice A n c) (.inl ⟨rfl, fun w' h' => by go_simp⟩) trivial ?_
   simp only [Act.put, zA, zB, zC]
   refine wpAnyH_all (rs := [3, 5]) (by kernel_rfl) (List.cons_ne_nil _ _) (fun ix hix => ?_)
   simp only [List.mem_cons, List.not_mem_nil, or_false] at hix
   rcases hix with rfl | rfl
   · skip
     refine wpOp_value 61 rfl rfl rfl (.int .i64 put) (by go_simp) ?_
     simp only [Act.put, zA, zB, zC]
     refine ⟨trivial, ?_⟩
     refine wpAnyH_all (rs := [5]) (by kernel_rfl) (List.cons_ne_nil _ _) (fun i5 hi5 => ?_)
     obtain rfl := List.mem_singleton.1 hi5
     have hcc1 := HPU.out W1.drew (Below.drew (Below.refl _ _))
     refine wpOp_enter 63 rfl rfl rfl 71 #[.slice A n c] (by go_simp) (.int .i64 (PP : Nat)) (fun w' => Below W1.drew.heap.size W1.drew w') hcc1 ?_
     intro v1 hv1
     simp only [Act.put, zA, zB, zC]
     refine ⟨trivial, ?_⟩
     clear p2 lqd
     have hv1b : Below W1.heap.size W1 v1 := (Below.drew (Below.refl _ _)).trans hv1
     have kq1 := HQ.out.below hv1b HQ.out.lt
     have p2 : v1.cell? ⟨q, 2, none⟩ = some (.int .i64 put) := kq1.cell 2
     have f2 := kq1.frozen 2
     have l2 := kq1.lt
     refine tkZ 64 6 rfl rfl (.int .i64 (put + (PP : Nat))) (.inl ⟨rfl, fun w' h' => by go_simp⟩) trivial ?_
     simp only [Act.put, zA, zB, zC]
     refine tkZ 65 7 rfl rfl (.pointer (some ⟨q, 0, none⟩)) (.inl ⟨rfl, fun w' h' => by go_simp⟩) trivial ?_
     simp only [Act.put, zA, zB, zC]
     refine tkZ 66 8 rfl rfl (.pointer (some ⟨q, 2, none⟩)) (.inl ⟨rfl, fun w' h' => by go_simp⟩) trivial ?_
     simp only [Act.put, zA, zB, zC]
     refine wpAnyH_all (rs := [9]) (by kernel_rfl) (List.cons_ne_nil _ _) (fun i9 hi9 => ?_)
     obtain rfl := List.mem_singleton.1 hi9
     refine wpOp_at rfl rfl ?_
     unfold Oper.wp
     go_simp
     refine ⟨(by kernel_rfl), ?_⟩
     exact ⟨rfl, v1, hv1b, rfl⟩
   · skip
     have hcc2 := HPU.out W1.drew (Below.drew (Below.refl _ _))
     refine wpOp_enter 63 rfl rfl rfl 71 #[.slice A n c] (by go_simp) (.int .i64 (PP : Nat)) (fun w' => Below W1.drew.heap.size W1.drew w') hcc2 ?_
     intro v1 hv1
     simp only [Act.put, zA, zB, zC]
     refine ⟨trivial, ?_⟩
     clear p2 lqd
     have hv1b : Below W1.heap.size W1 v1 := (Below.drew (Below.refl _ _)).trans hv1
     have kq1 := HQ.out.below hv1b HQ.out.lt
     have p2 : v1.cell? ⟨q, 2, none⟩ = some (.int .i64 put) := kq1.cell 2
     have f2 := kq1.frozen 2
     have l2 := kq1.lt
     refine wpAnyH_all (rs := [3]) (by kernel_rfl) (List.cons_ne_nil _ _) (fun i3 hi3 => ?_)
     obtain rfl := List.mem_singleton.1 hi3
     refine wpOp_value 61 rfl rfl rfl (.int .i64 put) (by go_simp) ?_
     simp only [Act.put, zA, zB, zC]
     refine ⟨trivial, ?_⟩
     refine tkZ 64 6 rfl rfl (.int .i64 (put + (PP : Nat))) (.inl ⟨rfl, fun w' h' => by go_simp⟩) trivial ?_
     simp only [Act.put, zA, zB, zC]
     refine tkZ 65 7 rfl rfl (.pointer (some ⟨q, 0, none⟩)) (.inl ⟨rfl, fun w' h' => by go_simp⟩) trivial ?_
     simp only [Act.put, zA, zB, zC]
     refine tkZ 66 8 rfl rfl (.pointer (some ⟨q, 2, none⟩)) (.inl ⟨rfl, fun w' h' => by go_simp⟩) trivial ?_
     simp only [Act.put, zA, zB, zC]
     refine wpAnyH_all (rs := [9]) (by kernel_rfl) (List.cons_ne_nil _ _) (fun i9 hi9 => ?_)
     obtain rfl := List.mem_singleton.1 hi9
     refine wpOp_at rfl rfl ?_
     unfold Oper.wp
     go_simp
     refine ⟨(by kernel_rfl), ?_⟩
     exact ⟨rfl, v1, hv1b, rfl⟩
 rintro a' w' ⟨rfl, v1, hv1b, rfl⟩
 simp only [Act.put, zA, zB, zC]
 have HM4 := Lib.hid (HM3.out.below hv1b)
 have HO2 := Lib.hid (HO1.out.trans (Only.of_below hv1b))
 have KZ4 := Lib.hid (KZ3.out.below hv1b KZ3.out.lt)
 have HD4 := Lib.hid (HD3.out.below hv1b)
 clear HM3 HO1 KZ3 HD3 hv1b HPU HQ
 have ho2 := Only.setSelf v1 q 2 (.int .i64 (put + (PP : Nat)))
 have kq2 := HM4.out.kq.set_ 2 (.int .i64 (put + (PP : Nat)))
 have kq2 : Blk (v1.setCell ⟨q, 2, none⟩ (.int .i64 (put + (PP : Nat)))) q 115 (wdc sq gs X.length cap (put + (PP : Nat)) (edits + 1)) := kq2
 have HM5 := Lib.hid (HM4.out.box ho2 kq2)
 have HO3 := Lib.hid (HO2.out.trans (ho2.mono fun k _ hk => by rw [hk]; exact HPq.out))
 have KZ5 := Lib.hid (KZ4.out.only ho2 (Blk.ne_ KZ4.out HM4.out.kq (by decide)))
 have HD5 := Lib.hid (HD4.out.only (ho2.mono fun k _ hk => by rw [hk]; exact HPq.out))
 obtain ⟨W2, hW2⟩ : ∃ W2, v1.setCell ⟨q, 2, none⟩ (.int .i64 (put + (PP : Nat))) = W2 := ⟨_, rfl⟩
 rw [hW2] at HM5 HO3 KZ5 HD5 ⊢
 clear HM4 HO2 KZ4 HD4 ho2 kq2 hW2
 have hsx := HM5.out.ss i x _ HX.out HA.out
 have hc_ := cedit_good x.c (a1, a2, a3) (b1, b2, b3) d A n c W2 HCK.out (rdS_ hsx.s.1 HCT1.out) (rdS_ hsx.h.1 HCT2.out) HD5.out.1 (by have e9 := own_n hsx.s.1; have e8 := HCN1.out; simp only at e9 ⊢; omega) (by have e9 := own_n hsx.h.1; have e8 := HCN2.out; simp only at e9 ⊢; omega) HDO.out HSQ.out
 obtain ⟨C2, hC2⟩ : ∃ C2, edL x.c d = C2 := ⟨_, rfl⟩
 rw [hC2] at hc_
 unfold clv clc at hc_
 simp only at hc_
 have Hc_ := Lib.hid hc_
 have HC2 := Lib.hid hC2
 have Hrow := Lib.hid (client_row KZ5.out rfl)
 clear hc_ hC2 hsx
 go_wp2_with (first | (refine wpList_load_blk rfl _ (.tmp 7) rfl z rfl _ Hrow.out ?_))
 refine Hc_.out.mono ?_
 rintro e W3 ⟨⟨s1, s2, s3⟩, ⟨t1, t2, t3⟩, rfl, hs1, ht1, hb3⟩
 try simp only at hs1 ht1
 have hlt5 := HM5.out.flt
 have hd1 : DtW W3 F (s1, s2, s3) C2.sent := ⟨own_base hs1 (Nat.zero_le _), fun k hk hf => by have h1 := own_ge hs1 k hk; have h2 := hlt5 k hf; omega⟩
 have hd2 : DtW W3 F (t1, t2, t3) C2.held := ⟨own_base ht1 (Nat.zero_le _), fun k hk hf => by have h1 := own_ge ht1 k hk; have h2 := hlt5 k hf; omega⟩
 have HM6 := Lib.hid (HM5.out.below hb3)
 have HO4 := Lib.hid (HO3.out.trans (Only.of_below hb3))
 have KZ6 := Lib.hid (KZ5.out.below hb3 KZ5.out.lt)
 have HS1 := Lib.hid hd1
 have HS2 := Lib.hid hd2
 clear Hc_ Hrow HM5 HO3 KZ5 HD5 hs1 ht1 hb3 hd1 hd2 hlt5
 go_upto_region 14 with (first | (refine wpList_store_blk rfl _ (.tmp 9) (.tmp 71) rfl W3.heap.size #[.int .i64 C2.who, .int .i64 C2.rev, .int .i64 C2.seq, .string C2.text, .bool C2.fly, .slice s1 s2 s3, .bool C2.wait, .slice t1 t2 t3] rfl rfl _ _ (Blk.new W3 _ _) client_info rfl (by simp [Value.oneCell']) ?_))
 have ky := (Blk.new W3 92 #[.int .i64 0, .int .i64 0, .int .i64 0, .string ⟨#[]⟩, .bool false, .slice none 0 0, .bool false, .slice none 0 0]).row #[.int .i64 C2.who, .int .i64 C2.rev, .int .i64 C2.seq, .string C2.text, .bool C2.fly, .slice s1 s2 s3, .bool C2.wait, .slice t1 t2 t3]
 have hal := below_setRow ((Below.refl W3.heap.size W3).alloc (Nat.le_refl _) (.cells #[.int .i64 0, .int .i64 0, .int .i64 0, .string ⟨#[]⟩, .bool false, .slice none 0 0, .bool false, .slice none 0 0] 92)) W3.heap.size #[.int .i64 C2.who, .int .i64 C2.rev, .int .i64 C2.seq, .string C2.text, .bool C2.fly, .slice s1 s2 s3, .bool C2.wait, .slice t1 t2 t3] (Nat.le_refl _)
 obtain ⟨W4, hW4⟩ : ∃ W4, (W3.alloc (.cells #[.int .i64 0, .int .i64 0, .int .i64 0, .string ⟨#[]⟩, .bool false, .slice none 0 0, .bool false, .slice none 0 0] 92)).setRow W3.heap.size #[.int .i64 C2.who, .int .i64 C2.rev, .int .i64 C2.seq, .string C2.text, .bool C2.fly, .slice s1 s2 s3, .bool C2.wait, .slice t1 t2 t3] = W4 := ⟨_, rfl⟩
 rw [hW4] at ky hal ⊢
 obtain ⟨y, hy⟩ : ∃ y, W3.heap.size = y := ⟨_, rfl⟩
 rw [hy] at ky ⊢
 have HM7 := Lib.hid (HM6.out.below hal)
 have HO5 := Lib.hid (HO4.out.trans (Only.of_below hal))
 have KZ7 := Lib.hid (KZ6.out.below hal KZ6.out.lt)
 have HS3 := Lib.hid (HS1.out.below hal)
 have HS4 := Lib.hid (HS2.out.below hal)
 have hyrow := client_row ky.drew rfl
 have HYR := Lib.hid hyrow
 have q1 : W4.drew.cell? ⟨q, 1, none⟩ = some (.slice (some ⟨gs, 0, none⟩) N cap) := (HM7.out.kq.drew.cell 1).trans (by rw [HNN.out]; rfl)
 have lq : q < W4.drew.heap.size := HM7.out.kq.lt
 have lg : gs < W4.drew.heap.size := HM7.out.kg.lt
 have ly : y < W4.drew.heap.size := ky.lt
 have Hth := Lib.hid (HM7.out.kg.drew.there (o := i * 10) (n := 8) (by rw [List.size_toArray, List.length_append, rowW_len X E HM7.out.le, HNN.out]; omega))
 clear HM6 HO4 KZ6 HS1 HS2 hal hW4 hy ky hyrow
 refine wp_region_still_tail 8 (by kernel_rfl) (by kernel_rfl) ?_
 simp only [List.take_succ_cons, List.take_zero, List.drop_succ_cons, List.drop_zero]
 repeat still_step
 refine wpStill_load_blk rfl _ (.tmp 9) rfl y rfl _ HYR.out ?_
 repeat still_step
 refine wpStill_nil ?_
 change wpList _ _ _ _ _ W4.drew
 go_upto_region 15 with (first | (refine wpList_store_mid rfl _ (.tmp 80) (.tmp 78) rfl gs (i * 10) #[.int .i64 C2.who, .int .i64 C2.rev, .int .i64 C2.seq, .string C2.text, .bool C2.fly, .slice s1 s2 s3, .bool C2.wait, .slice t1 t2 t3] rfl rfl Hth.out client_info (by simp [Value.oneCell']) ?_))
 have kg8 := Blk.setMany (w := W4.drew) [.int .i64 C2.who, .int .i64 C2.rev, .int .i64 C2.seq, .string C2.text, .bool C2.fly, .slice s1 s2 s3, .bool C2.wait, .slice t1 t2 t3] (i * 10) W4.drew _ HM7.out.kg.drew
 rw [show setL (rowW X E ++ sp).toArray (i * 10) [.int .i64 C2.who, .int .i64 C2.rev, .int .i64 C2.seq, .string C2.text, .bool C2.fly, .slice s1 s2 s3, .bool C2.wait, .slice t1 t2 t3] = (rowW (X.set i { x with c := C2 }) (E.set i ((s1, s2, s3), (t1, t2, t3), (u1, u2, u3))) ++ sp).toArray from rowW_client HX.out HA.out HM7.out.le C2 (s1, s2, s3) (t1, t2, t3)] at kg8
 have ho8 := Only.setMany gs [.int .i64 C2.who, .int .i64 C2.rev, .int .i64 C2.seq, .string C2.text, .bool C2.fly, .slice s1 s2 s3, .bool C2.wait, .slice t1 t2 t3] (i * 10) W4.drew
 obtain ⟨W5, hW5⟩ : ∃ W5, W4.drew.setCells gs (i * 10) [.int .i64 C2.who, .int .i64 C2.rev, .int .i64 C2.seq, .string C2.text, .bool C2.fly, .slice s1 s2 s3, .bool C2.wait, .slice t1 t2 t3] = W5 := ⟨_, rfl⟩
 rw [hW5] at kg8 ho8 ⊢
 have ho9 : Only W4 W5 (fun k => k = gs) := (Only.drew W4).trans ho8
 have hss := HM7.out.ss i x _ HX.out HA.out
 have hS9 : ∀ k, k = gs → F k ∨ ∃ cs t, Blk W4 k t cs ∧ t ≠ 88 := fun k hk => .inr ⟨_, _, hk ▸ HM7.out.kg, by decide⟩
 have hus : UpW W5 F (u1, u2, u3) x.up := hss.u.only ho9 hS9 (fun k hk e => by
  obtain ⟨_, cur, hc⟩ := upB_blk hss.u hk
  exact Blk.ne_ hc HM7.out.kg (by decide) e)
 have hM9 : WdM W5 F q sq gs cap (E.set i ((s1, s2, s3), (t1, t2, t3), (u1, u2, u3))) sp s (X.set i { x with c := C2 }) (put + (PP : Nat)) (edits + 1) :=
  HM7.out.seat (x := { x with c := C2 }) (a := ((s1, s2, s3), (t1, t2, t3), (u1, u2, u3))) HX.out HA.out (ho9.mono fun k _ hk => .inl hk) kg8 ⟨HS3.out.only ho9 hS9, HS4.out.only ho9 hS9, hus⟩ (fun g hg => .inl hg)
 have hO9 : Only w W5 P := HO5.out.trans (ho9.mono fun k _ hk => by rw [hk]; exact HPg.out)
 have hP9 : WdS W5 (grow P w W5) F sq q s (X.set i { x with c := C2 }) (put + (PP : Nat)) (edits + 1) := by
  refine ⟨gs, cap, _, sp, hM9, .inl HPq.out, .inl HPg.out, ?_⟩
  intro j b hb z hz
  by_cases hj : j = i
  · subst hj
    rw [List.getElem?_set_self (by rw [HM7.out.le]; exact (List.getElem?_eq_some_iff.1 HX.out).1)] at hb
    injection hb with hb
    subst hb
    exact .inl (HPu.out _ _ HA.out z hz)
  · rw [List.getElem?_set_ne (Ne.symm hj)] at hb
    exact .inl (HPu.out j b hb z hz)
 have k9 := KZ7.out.drew.only ho8 (Blk.ne_ KZ7.out HM7.out.kg (by decide))
 have HP9 := Lib.hid hP9
 have HO9 := Lib.hid hO9
 have z4 : W5.cell? ⟨z, 4, none⟩ = some (.bool x.c.fly) := k9.cell 4
 have lz := k9.lt
 clear q1 lq lg ly Hth HYR HM7 HO5 KZ7 HS3 HS4 kg8 ho8 hW5 ho9 hss hS9 hus hM9 hO9 hP9 k9
 obtain ⟨FL, hFL⟩ : ∃ b, x.c.fly = b := ⟨_, rfl⟩
 rw [hFL] at z4
 cases FL with
 | true =>
   have hes : editS x d = { x with c := C2 } := by unfold editS; rw [if_neg (by simp [hFL]), HC2.out]
   have HES := Lib.hid hes
   clear hes hFL
   go_wp2_with fail
   go_ret
   refine .inr ⟨rfl, ⟨HDO.out, by omega, by rw [HPP.out]; omega⟩, ?_, HO9.out⟩
   rw [HES.out, HPP.out]
   exact HP9.out
 | false =>
   have hup0 := HUP.out hFL
   have hes : editS x d = sayS { x with c := C2 } := by unfold editS; rw [if_pos hFL, HC2.out]
   have hc2f : C2.fly = true := by rw [← HC2.out]; unfold edL; rw [if_pos hFL]
   have hck2 : CkOk C2 := by
    rw [← HC2.out]
    exact ckok_edit HCK.out HDO.out (fun hf => by have h1 := HSQ.out hf; have h2 := HCK.out.seq1; omega)
   have hXi : (X.set i { x with c := C2 })[i]? = some { x with c := C2 } := List.getElem?_set_self (List.getElem?_eq_some_iff.1 HX.out).1
   have hsay := wsay_S W5 (grow P w W5) F sq q s (X.set i { x with c := C2 }) (put + (PP : Nat)) (edits + 1) HP9.out i { x with c := C2 } hXi hc2f hup0 hck2
   have Hsay := Lib.hid hsay
   have HES := Lib.hid hes
   clear hsay hes hc2f hck2 hXi hup0 hFL
   go_wp2_with fail
   refine Hsay.out.mono ?_
   rintro e W6 ⟨rfl, hP6, hO6⟩
   rw [List.set_set] at hP6
   have hO66 : Only w W6 P := HO9.out.trans_grow hO6
   have hP66 : WdS W6 (grow P w W6) F sq q s (X.set i (sayS { x with c := C2 })) (put + (PP : Nat)) (edits + 1) := hP6.mono fun k hk hg => grow_grow HO9.out.2.2.2.1 hO6.2.2.2.1 hg
   have HP66 := Lib.hid hP66
   have HO66 := Lib.hid hO66
   clear hP6 hO6 hO66 hP66 z4 lz HP9 HO9 Hsay
   go_wp2_with fail
   go_ret
   refine .inr ⟨rfl, ⟨HDO.out, by omega, by rw [HPP.out]; omega⟩, ?_, HO66.out⟩
   rw [HES.out, HPP.out]
   exact HP66.out
theorem wupno_P (w : World) (P : Nat → Prop) (q : Nat) (s : Sh) (X : List St) (put edits : Int) (h : WdP w P q s X put edits) (i : Nat) (x : St) (hx : X[i]? = some x) (hup : x.up = []) :
 Calls Try.prog 26 #[.pointer (some ⟨q, 0, none⟩), .int .i64 i] w fun e w' => e = .returned (.bool false) ∧ Below w.heap.size w w' := by
 obtain ⟨F, sq, gs, cap, E, sp, h, hF, hPq, hPg, hPu⟩ := h
 obtain ⟨N, hN⟩ : ∃ N, X.length = N := ⟨_, rfl⟩
 have hkq := h.kq
 have hc1 := h.c1
 have hc2 := h.c2
 rw [hN] at hkq hc1
 have hcp : (N : Int) ≤ (cap : Int) := by omega
 have hcm : (cap : Int) ≤ 9223372036854775807 := by simp only [maxLen] at hc2; omega
 have hN0 : (0 : Int) ≤ (N : Int) := by omega
 have q0 : w.cell? ⟨q, 0, none⟩ = some (.pointer (some ⟨sq, 0, none⟩)) := hkq.cell 0
 have q1 : w.cell? ⟨q, 1, none⟩ = some (.slice (some ⟨gs, 0, none⟩) N cap) := hkq.cell 1
 have lq := hkq.lt
 have lg := h.kg.lt
 have hiN : i < N := by rw [← hN]; exact (List.getElem?_eq_some_iff.1 hx).1
 have hi0 : (0 : Int) ≤ (i : Int) := by omega
 have hiN' : (i : Int) < (N : Int) := by omega
 obtain ⟨⟨⟨a1, a2, a3⟩, ⟨b1, b2, b3⟩, ⟨u1, u2, u3⟩⟩, ha, hs, hat⟩ := h.at_ hx
 have hrow : u2 = 0 := by
  rcases hs.u.2 with ⟨_, e2, e3⟩ | ⟨m, d_, g_, o_, cur_, e1, _⟩
  · exact e2
  · rw [hup] at e1; cases e1
 subst hrow
 have e8 : w.cell? ⟨gs, i * 10 + 8, none⟩ = some (.slice u1 0 u3) := hat 8 (by decide)
 clear h hx ha hs hat hkq hc1 hc2 hN hF hPq hPg hPu
 go_enter Try.func26, Try.ntmps26
 go_wp2_with fail
 go_ret
 exact ⟨rfl, Below.refl _ _⟩
end Go.Proofs.Ytokngfinnieccaa
