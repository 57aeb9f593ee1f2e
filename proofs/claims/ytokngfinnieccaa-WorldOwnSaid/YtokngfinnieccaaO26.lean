/- A world, its seats' blocks and its archive's told apart: Down. -/
import Derived.Test.YtokngfinnieccaaO24
import Derived.Test.YtokngfinnieccaaO25
namespace Go.Proofs.Ytokngfinnieccaa
open Go.ChangeShapes Go.WideShapes Go.RowKit
set_option linter.unusedVariables false
set_option linter.unusedSimpArgs false
set_option maxRecDepth 100000
set_option maxHeartbeats 4000000
theorem wdown_own_S (w : World) (P F : Nat → Prop) (sq q : Nat) (s : Sh) (X : List St) (put edits : Int) (h : WdS w P F sq q s X put edits) (i : Nat) (x : St) (hx : X[i]? = some x) (hck : CkOk x.c) (hb : s.log.base = 0) (hlt : x.told < s.log.revs.length) (hrev : x.c.rev = (x.told : Int)) (hwho : x.c.who = (i : Int)) (ra rb : Int) (dd : List Pt) (hr : s.log.revs[x.told] = (ra, rb, dd)) (C2 : Cl) (hf : x.c.fly = true) (h1 : x.c.who = ra) (h2 : x.c.seq = rb) (hc : chk dd = 0) (hds : x.up = []) (hsq : x.c.wait = true → x.c.seq ≠ 2147483647) (hC2 : inO x.c = C2) (hk2 : CkOk C2) (Y : St) (hY : Y = (if x.c.wait = true then sayS ⟨C2, x.up, x.told + 1⟩ else ⟨C2, x.up, x.told + 1⟩)) :
 Calls Try.prog 27 #[.pointer (some ⟨q, 0, none⟩), .int .i64 i] w fun e w' => e = .returned (.bool true) ∧ WdS w' (grow P w w') F sq q s (X.set i Y) put edits ∧ Only w w' P := by
 obtain ⟨gs, cap, E, sp, h, hPq, hPg, hPu⟩ := h
 obtain ⟨N, hN⟩ : ∃ N, X.length = N := ⟨_, rfl⟩
 have hkq := h.kq
 have hc1 := h.c1
 have hc2 := h.c2
 rw [hN] at hkq hc1
 have hcp : (N : Int) ≤ (cap : Int) := by omega
 have hcm : (cap : Int) ≤ 9223372036854775807 := by simp only [maxLen] at hc2; omega
 have hN0 : (0 : Int) ≤ (N : Int) := by omega
 have q0 : w.cell? ⟨q, 0, none⟩ = some (.pointer (some ⟨sq, 0, none⟩)) := hkq.cell 0
 have q1 : w.cell? ⟨q, 1, none⟩ = some (.slice (some ⟨gs, 0, none⟩) N cap) := hkq.cell 1
 have lq := hkq.lt
 have lg := h.kg.lt
 have hiN : i < N := by rw [← hN]; exact (List.getElem?_eq_some_iff.1 hx).1
 have hi0 : (0 : Int) ≤ (i : Int) := by omega
 have hiN' : (i : Int) < (N : Int) := by omega
 obtain ⟨⟨⟨a1, a2, a3⟩, ⟨b1, b2, b3⟩, ⟨u1, u2, u3⟩⟩, ha, hs, hat⟩ := h.at_ hx
 have hi9 : decide ((i : Int) < 0) = false := decide_eq_false (by omega)
 have hn9 : decide (N ≤ i) = false := decide_eq_false (by omega)
 have hn8 : decide ((N : Int) ≤ (i : Int)) = false := decide_eq_false (by omega)
 have e9 : w.cell? ⟨gs, i * 10 + 9, none⟩ = some (.int .i64 x.told) := hat 9 (by decide)
 have row9 : (rowW X E ++ sp).toArray[i * 10 + 9]? = some (.int .i64 x.told) := (h.kg.cell _).symm.trans e9
 have HR9 := Lib.hid row9
 have hh := shead_B sq s none 0 1 w.drew (ShB.of ((h.below (Below.drew (Below.refl _ _))).sh) (fun _ _ => Nat.zero_le _))
 rw [hb, Int.zero_add] at hh
 obtain ⟨LR, hLR⟩ : ∃ LR, s.log.revs.length = LR := ⟨_, rfl⟩
 rw [hLR] at hh
 have HH := Lib.hid hh
 have HLR := Lib.hid hLR
 have heq : ((x.told : Int) == (LR : Int)) = false := by
  have : x.told ≠ LR := by rw [← hLR]; omega
  simpa using (show ¬ (x.told : Int) = (LR : Int) by omega)
 have hlt' : x.told < 1000 := by have := h.sh.inv.log.len; omega
 obtain ⟨ct1, ct2⟩ := ckok_txt hck
 obtain ⟨cn1, cn2⟩ := ckok_len hck
 have Hr := Lib.hid (client_rng hat)
 have hdrop : s.log.revs.drop x.told = (ra, rb, dd) :: s.log.revs.drop (x.told + 1) := by rw [← hr]; exact List.drop_eq_getElem_cons hlt
 have hrv := fun (w' : World) (hM : WdM w' F q sq gs cap E sp s X put edits) => (srevs_B sq s none 0 1 (x.told : Int) x.told w' (ShB.of hM.sh (fun _ _ => Nat.zero_le _)) (by rw [hb, Int.zero_add]) (Nat.le_of_lt hlt)).mono (R' := fun e w'' => ∃ v, e = .returned v ∧ ∃ (sl' : Sl) (ss : List Sl), v = .tuple #[.slice sl'.1 sl'.2.1 sl'.2.2, .int .i64 0] ∧ OwnV w'' w'.heap.size (.slice sl'.1 sl'.2.1 sl'.2.2) ss (s.log.revs.drop x.told) ∧ Below w'.heap.size w' w'') (fun e w'' hh => by
  obtain ⟨sl', ss, e1, e2, e3⟩ := hh
  exact ⟨_, e1, sl', ss, rfl, e2, e3⟩)
 have HRV0 := Lib.hid hrv
 have HDR := Lib.hid hdrop
 have hin : ∀ (v4 : World) (A1 : Option Addr) (n1 c1 : Nat), WdM v4 F q sq gs cap E sp s X put edits → RdP v4 v4.heap.size A1 n1 c1 dd → Calls Try.prog 74 #[.agg #[.int .i64 x.c.who, .int .i64 x.c.rev, .int .i64 x.c.seq, .string x.c.text, .bool x.c.fly, .slice a1 a2 a3, .bool x.c.wait, .slice b1 b2 b3], .agg #[.int .i64 x.told, .int .i64 ra, .int .i64 rb, .slice A1 n1 c1]] v4.drew fun e w' => ∃ v, e = .returned v ∧ ∃ s1 h1 : Sl, v = .tuple #[clv C2 s1 h1, .int .i64 0] ∧ OwnSl w' v4.drew.heap.size s1 C2.sent ∧ OwnSl w' v4.drew.heap.size h1 C2.held ∧ Below v4.drew.heap.size v4.drew w' := by
  intro v4 A1 n1 c1 hM hrp0
  have hMd := hM.below (Below.drew (Below.refl _ _))
  have hsd := hMd.ss i x _ hx ha
  have hrp : RdP v4.drew v4.drew.heap.size A1 n1 c1 dd := hrp0.step (Below.drew (Below.refl _ _))
  have hn1_ : a2 ≤ 4000000 := by have e9 := own_n hsd.s.1; simp only at e9; omega
  have hn2_ : b2 ≤ 4000000 := by have e9 := own_n hsd.h.1; simp only at e9; omega
  have hmono : ∀ (e : Ending) (w' : World), (∃ s1 h1 : Sl, e = .returned (.tuple #[clv (inO x.c) s1 h1, .int .i64 0]) ∧ OwnSl w' v4.drew.heap.size s1 (inO x.c).sent ∧ OwnSl w' v4.drew.heap.size h1 (inO x.c).held ∧ Below v4.drew.heap.size v4.drew w') → ∃ v, e = .returned v ∧ ∃ s1 h1 : Sl, v = .tuple #[clv C2 s1 h1, .int .i64 0] ∧ OwnSl w' v4.drew.heap.size s1 C2.sent ∧ OwnSl w' v4.drew.heap.size h1 C2.held ∧ Below v4.drew.heap.size v4.drew w' := by
   rintro e w' ⟨s1, h1, e1, e2, e3, e4⟩
   rw [hC2] at e1 e2 e3
   exact ⟨_, e1, s1, h1, rfl, e2, e3, e4⟩
  have key : Calls Try.prog 74 #[clv x.c (a1, a2, a3) (b1, b2, b3), mgv x.c.rev ra rb (A1, n1, c1)] v4.drew fun e w' => ∃ v, e = .returned v ∧ ∃ s1 h1 : Sl, v = .tuple #[clv C2 s1 h1, .int .i64 0] ∧ OwnSl w' v4.drew.heap.size s1 C2.sent ∧ OwnSl w' v4.drew.heap.size h1 C2.held ∧ Below v4.drew.heap.size v4.drew w' := by
   rw [← h1, ← h2]
   exact (cin_own x.c (a1, a2, a3) (b1, b2, b3) dd A1 n1 c1 v4.drew hck (rdS_ hsd.s.1 ct1) (rdS_ hsd.h.1 ct2) hrp hn1_ hn2_ (by rw [hrev]; have := hlt'; omega) hc hf hsq).mono hmono
  rw [← hrev]
  exact key
 have HIN0 := Lib.hid hin
 have HREV := Lib.hid hrev
 have HWH := Lib.hid hwho
 have HC2 := Lib.hid hC2
 have HH1 := Lib.hid h1
 have HH2 := Lib.hid h2
 have HFL := Lib.hid hf
 have HUP := Lib.hid hds
 have HK2 := Lib.hid hk2
 have HY := Lib.hid hY
 have HM := Lib.hid h
 have HX := Lib.hid hx
 have HA := Lib.hid ha
 have HS := Lib.hid hs
 have HPq := Lib.hid hPq
 have HPg := Lib.hid hPg
 have HPu := Lib.hid hPu
 have HNN := Lib.hid hN
 clear h hx ha hs hat hkq hc1 hc2 hN hPq hPg hPu
 clear hh hLR row9 hrv hdrop hin hr hrev hwho hC2 ct1 ct2 cn1 cn2 h1 hck hlt h2 hf hds hsq hc hk2 hY
 go_enter Try.func27, Try.ntmps27
 go_upto_region 1 with (fail)
 refine wp_region_held (S := fun w' => w'.cell? ⟨q, 0, none⟩ = some (.pointer (some ⟨sq, 0, none⟩)) ∧ w'.cell? ⟨q, 1, none⟩ = some (.slice (some ⟨gs, 0, none⟩) N cap) ∧ w'.cell? ⟨gs, i * 10 + 9, none⟩ = some (.int .i64 x.told)) (by kernel_rfl) ?_
 have hS : w.drew.cell? ⟨q, 0, none⟩ = some (.pointer (some ⟨sq, 0, none⟩)) ∧ w.drew.cell? ⟨q, 1, none⟩ = some (.slice (some ⟨gs, 0, none⟩) N cap) ∧ w.drew.cell? ⟨gs, i * 10 + 9, none⟩ = some (.int .i64 x.told) := ⟨q0, q1, e9⟩
 change wpAnyH _ _ _ _ _ _ _ _ w.drew
 refine tkZ 10 0 rfl rfl (.int .i64 i) (.inl ⟨rfl, fun w' h' => by go_simp⟩) hS ?_
 simp only [Act.put, zA, zB, zC]
 refine tkZ 11 1 rfl rfl (.bool false) (.inl ⟨rfl, fun w' h' => by go_simp⟩) hS ?_
 simp only [Act.put, zA, zB, zC]
 refine tkZ 12 2 rfl rfl (.bool false) (.inl ⟨rfl, fun w' h' => by go_simp⟩) hS ?_
 simp only [Act.put, zA, zB, zC]
 refine tkZ 13 3 rfl rfl (.int .i64 i) (.inl ⟨rfl, fun w' h' => by go_simp⟩) hS ?_
 simp only [Act.put, zA, zB, zC]
 refine tkZ 14 4 rfl rfl (.pointer (some ⟨q, 0, none⟩)) (.inl ⟨rfl, fun w' h' => by go_simp⟩) hS ?_
 simp only [Act.put, zA, zB, zC]
 refine tkZ 15 5 rfl rfl (.pointer (some ⟨q, 0, none⟩)) (.inl ⟨rfl, fun w' h' => by go_simp⟩) hS ?_
 simp only [Act.put, zA, zB, zC]
 refine tkZ 16 6 rfl rfl (.pointer (some ⟨q, 1, none⟩)) (.inl ⟨rfl, fun w' h' => by go_simp⟩) hS ?_
 simp only [Act.put, zA, zB, zC]
 refine tkZ 17 7 rfl rfl (.slice (some ⟨gs, 0, none⟩) N cap) (.inl ⟨rfl, fun w' h' => by obtain ⟨h1, h2, h3⟩ := h'; go_simp⟩) hS ?_
 simp only [Act.put, zA, zB, zC]
 refine tkZ 18 8 rfl rfl (.int .i64 N) (.inl ⟨rfl, fun w' h' => by go_simp⟩) hS ?_
 simp only [Act.put, zA, zB, zC]
 refine tkZ 19 9 rfl rfl (.bool false) (.inl ⟨rfl, fun w' h' => by go_simp⟩) hS ?_
 simp only [Act.put, zA, zB, zC]
 refine tkZ 20 10 rfl rfl (.bool false) (.inl ⟨rfl, fun w' h' => by go_simp⟩) hS ?_
 simp only [Act.put, zA, zB, zC]
 refine tkZ 21 11 rfl rfl (.bool false) (.inl ⟨rfl, fun w' h' => by go_simp⟩) hS ?_
 simp only [Act.put, zA, zB, zC]
 refine tkZ 22 12 rfl rfl (.pointer (some ⟨q, 0, none⟩)) (.inl ⟨rfl, fun w' h' => by go_simp⟩) hS ?_
 simp only [Act.put, zA, zB, zC]
 refine tkZ 23 13 rfl rfl (.pointer (some ⟨q, 0, none⟩)) (.inl ⟨rfl, fun w' h' => by go_simp⟩) hS ?_
 simp only [Act.put, zA, zB, zC]
 refine tkZ 24 14 rfl rfl (.pointer (some ⟨q, 1, none⟩)) (.inl ⟨rfl, fun w' h' => by go_simp⟩) hS ?_
 simp only [Act.put, zA, zB, zC]
 refine tkZ 25 15 rfl rfl (.slice (some ⟨gs, 0, none⟩) N cap) (.inl ⟨rfl, fun w' h' => by obtain ⟨h1, h2, h3⟩ := h'; go_simp⟩) hS ?_
 simp only [Act.put, zA, zB, zC]
 refine tkZ 26 16 rfl rfl (.int .i64 i) (.inl ⟨rfl, fun w' h' => by go_simp⟩) hS ?_
 simp only [Act.put, zA, zB, zC]
 refine tkZ 27 17 rfl rfl (.pointer (some ⟨gs, i * 10, none⟩)) (.inl ⟨rfl, fun w' h' => by go_simp⟩) hS ?_
 simp only [Act.put, zA, zB, zC]
 refine tkZ 28 18 rfl rfl (.pointer (some ⟨gs, i * 10 + 9, none⟩)) (.inl ⟨rfl, fun w' h' => by go_simp⟩) hS ?_
 simp only [Act.put, zA, zB, zC]
 refine tkZ 29 19 rfl rfl (.int .i64 x.told) (.inl ⟨rfl, fun w' h' => by obtain ⟨h1, h2, h3⟩ := h'; go_simp⟩) hS ?_
 simp only [Act.put, zA, zB, zC]
 refine tkZ 30 20 rfl rfl (.pointer (some ⟨q, 0, none⟩)) (.inl ⟨rfl, fun w' h' => by go_simp⟩) hS ?_
 simp only [Act.put, zA, zB, zC]
 refine tkZ 31 21 rfl rfl (.pointer (some ⟨q, 0, none⟩)) (.inl ⟨rfl, fun w' h' => by go_simp⟩) hS ?_
 simp only [Act.put, zA, zB, zC]
 refine tkZ 32 22 rfl rfl (.pointer (some ⟨q, 0, none⟩)) (.inl ⟨rfl, fun w' h' => by go_simp⟩) hS ?_
 simp only [Act.put, zA, zB, zC]
 refine tkZ 33 23 rfl rfl (.pointer (some ⟨sq, 0, none⟩)) (.inl ⟨rfl, fun w' h' => by obtain ⟨h1, h2, h3⟩ := h'; go_simp⟩) hS ?_
 simp only [Act.put, zA, zB, zC]
 have hcc_ := HH.out
 refine wpAnyH_all (rs := [24]) (by kernel_rfl) (List.cons_ne_nil _ _) (fun i24 hi24 => ?_)
 obtain rfl := List.mem_singleton.1 hi24
 refine wpOp_enter 34 rfl rfl rfl 40 #[.pointer (some ⟨sq, 0, none⟩)] (by go_simp) (.int .i64 (LR : Int)) (fun w' => Below w.drew.heap.size w.drew w') hcc_ ?_
 intro v1 hv1
 simp only [Act.put, zA, zB, zC]
 clear hcc_
 have hb1 : Below w.heap.size w v1 := (Below.drew (Below.refl _ _)).trans hv1
 have HM1 := Lib.hid (HM.out.below hb1)
 have hSv1 : v1.cell? ⟨q, 0, none⟩ = some (.pointer (some ⟨sq, 0, none⟩)) ∧ v1.cell? ⟨q, 1, none⟩ = some (.slice (some ⟨gs, 0, none⟩) N cap) ∧ v1.cell? ⟨gs, i * 10 + 9, none⟩ = some (.int .i64 x.told) := ⟨HM1.out.kq.cell 0, (HM1.out.kq.cell 1).trans (by rw [HNN.out]; rfl), (HM1.out.kg.cell _).trans HR9.out⟩
 have HB1 := Lib.hid hb1
 clear hb1
 refine ⟨hSv1, ?_⟩
 refine tkZ 35 25 rfl rfl (.bool false) (.inl ⟨rfl, fun w' h' => by go_simp⟩) hSv1 ?_
 simp only [Act.put, zA, zB, zC]
 refine tkZ 36 26 rfl rfl (.bool false) (.inl ⟨rfl, fun w' h' => by go_simp⟩) hSv1 ?_
 simp only [Act.put, zA, zB, zC]
 refine wpAnyH_done (by kernel_rfl) ?_ _
 clear hSv1 hS q0 q1 e9 lq lg HH
 have q1 : v1.cell? ⟨q, 1, none⟩ = some (.slice (some ⟨gs, 0, none⟩) N cap) := (HM1.out.kq.cell 1).trans (by rw [HNN.out]; rfl)
 have lq := HM1.out.kq.lt
 have lg := HM1.out.kg.lt
 go_upto_region 4 with (fail)
 clear q1 lq lg heq hi9 hn9 hn8
 have HRV := Lib.hid (HRV0.out v1.drew (HM1.out.below (Below.drew (Below.refl _ _))))
 refine wp_region_held (S := fun w' => w'.cell? ⟨q, 0, none⟩ = some (.pointer (some ⟨sq, 0, none⟩)) ∧ w'.cell? ⟨gs, i * 10 + 9, none⟩ = some (.int .i64 x.told)) (by kernel_rfl) ?_
 have hS : v1.drew.cell? ⟨q, 0, none⟩ = some (.pointer (some ⟨sq, 0, none⟩)) ∧ v1.drew.cell? ⟨gs, i * 10 + 9, none⟩ = some (.int .i64 x.told) := ⟨HM1.out.kq.cell 0, (HM1.out.kg.cell _).trans HR9.out⟩
 change wpAnyH _ _ _ _ _ _ _ _ v1.drew
 refine tkZ 44 0 rfl rfl (.pointer (some ⟨q, 0, none⟩)) (.inl ⟨rfl, fun w' h' => by go_simp⟩) hS ?_
 simp only [Act.put, zA, zB, zC]
 refine tkZ 45 1 rfl rfl (.pointer (some ⟨q, 0, none⟩)) (.inl ⟨rfl, fun w' h' => by go_simp⟩) hS ?_
 simp only [Act.put, zA, zB, zC]
 refine tkZ 46 2 rfl rfl (.pointer (some ⟨q, 0, none⟩)) (.inl ⟨rfl, fun w' h' => by go_simp⟩) hS ?_
 simp only [Act.put, zA, zB, zC]
 refine tkZ 47 3 rfl rfl (.pointer (some ⟨sq, 0, none⟩)) (.inl ⟨rfl, fun w' h' => by obtain ⟨h1, h2⟩ := h'; go_simp⟩) hS ?_
 simp only [Act.put, zA, zB, zC]
 refine tkZ 48 4 rfl rfl (.pointer (some ⟨gs, i * 10, none⟩)) (.inl ⟨rfl, fun w' h' => by go_simp⟩) hS ?_
 simp only [Act.put, zA, zB, zC]
 refine tkZ 49 5 rfl rfl (.pointer (some ⟨gs, i * 10, none⟩)) (.inl ⟨rfl, fun w' h' => by go_simp⟩) hS ?_
 simp only [Act.put, zA, zB, zC]
 refine tkZ 50 6 rfl rfl (.pointer (some ⟨gs, i * 10 + 9, none⟩)) (.inl ⟨rfl, fun w' h' => by go_simp⟩) hS ?_
 simp only [Act.put, zA, zB, zC]
 refine tkZ 51 7 rfl rfl (.int .i64 x.told) (.inl ⟨rfl, fun w' h' => by obtain ⟨h1, h2⟩ := h'; go_simp⟩) hS ?_
 simp only [Act.put, zA, zB, zC]
 have hcc_ := HRV.out
 refine wpAnyH_all (rs := [8]) (by kernel_rfl) (List.cons_ne_nil _ _) (fun i8 hi8 => ?_)
 obtain rfl := List.mem_singleton.1 hi8
 refine wpOp_enterE 52 rfl rfl rfl 50 #[.pointer (some ⟨sq, 0, none⟩), .int .i64 x.told] (by go_simp) (fun v w' => ∃ (sl' : Sl) (ss : List Sl), v = .tuple #[.slice sl'.1 sl'.2.1 sl'.2.2, .int .i64 0] ∧ OwnV w' v1.drew.heap.size (.slice sl'.1 sl'.2.1 sl'.2.2) ss (s.log.revs.drop x.told) ∧ Below v1.drew.heap.size v1.drew w') hcc_ ?_
 intro vv2 v2 hv2
 clear hcc_
 obtain ⟨⟨r1, r2, r3⟩, ss, rfl, hov, hbb⟩ := hv2
 have hb2 : Below v1.heap.size v1 v2 := (Below.drew (Below.refl _ _)).trans hbb
 have HM2 := Lib.hid (HM1.out.below hb2)
 have hSv2 : v2.cell? ⟨q, 0, none⟩ = some (.pointer (some ⟨sq, 0, none⟩)) ∧ v2.cell? ⟨gs, i * 10 + 9, none⟩ = some (.int .i64 x.told) := ⟨HM2.out.kq.cell 0, (HM2.out.kg.cell _).trans HR9.out⟩
 have HB2 := Lib.hid (HB1.out.trans (hb2.mono HB1.out.size))
 have HOV := Lib.hid hov
 clear hb2 hbb hov
 simp only [Act.put, zA, zB, zC]
 refine ⟨hSv2, ?_⟩
 refine tkZ 43 9 rfl rfl (.tuple #[.slice r1 r2 r3, .int .i64 0]) (.inl ⟨rfl, fun w' h' => by go_simp⟩) hSv2 ?_
 simp only [Act.put, zA, zB, zC]
 refine tkZ 53 10 rfl rfl (.slice r1 r2 r3) (.inl ⟨rfl, fun w' h' => by go_simp⟩) hSv2 ?_
 simp only [Act.put, zA, zB, zC]
 refine tkZ 54 11 rfl rfl (.int .i64 0) (.inl ⟨rfl, fun w' h' => by go_simp⟩) hSv2 ?_
 simp only [Act.put, zA, zB, zC]
 refine tkZ 6 12 rfl rfl (.slice r1 r2 r3) (.inl ⟨rfl, fun w' h' => by go_simp⟩) hSv2 ?_
 simp only [Act.put, zA, zB, zC]
 refine tkZ 7 13 rfl rfl (.int .i64 0) (.inl ⟨rfl, fun w' h' => by go_simp⟩) hSv2 ?_
 simp only [Act.put, zA, zB, zC]
 refine wpAnyH_done (by kernel_rfl) ?_ _
 clear hSv2 hS HRV HRV0
 have hov := HOV.out
 simp only at hov
 rw [HDR.out] at hov
 have hln : r2 = (s.log.revs.drop (x.told + 1)).length + 1 := by
  obtain ⟨A9, c9, e9⟩ := hov.form
  injection e9 with f1 f2 f3
 obtain ⟨b, o, A1, n1, c1, rfl, hbl, d0, d1, d2, hrd⟩ := hov.rd.at_ 0 (by omega)
 simp only [Nat.zero_mul, Nat.add_zero, List.getElem_cons_zero] at d0 d1 d2 hrd
 have hr20 : (0 : Int) < (r2 : Int) := by omega
 have hr21 : 0 < r2 := by omega
 have HRD := Lib.hid hrd
 have HRL : Hid (Below v2.heap.size v2 v2) := Lib.hid (Below.refl _ _)
 have hrg : v2.rangeAt gs (i * 10) [.int .i64 x.c.who, .int .i64 x.c.rev, .int .i64 x.c.seq, .string x.c.text, .bool x.c.fly, .slice a1 a2 a3, .bool x.c.wait, .slice b1 b2 b3] := by
  obtain ⟨a9, e9_, _, at9⟩ := HM2.out.at_ HX.out
  rw [HA.out] at e9_
  have e9_ := Option.some.inj e9_
  subst e9_
  exact client_rng at9
 have HRG := Lib.hid hrg
 have lg := HM2.out.kg.lt
 clear hov hln hrd hrg HOV
 go_upto_region 6 with (fail)
 have kz := Blk.new v2 30 #[.int .i64 ra, .int .i64 rb, .slice A1 n1 c1]
 have hal := (Below.refl v2.heap.size v2).alloc (Nat.le_refl _) (.cells #[.int .i64 ra, .int .i64 rb, .slice A1 n1 c1] 30)
 obtain ⟨v3, hv3⟩ : ∃ v3, v2.alloc (.cells #[.int .i64 ra, .int .i64 rb, .slice A1 n1 c1] 30) = v3 := ⟨_, rfl⟩
 rw [hv3] at kz hal ⊢
 obtain ⟨z, hz⟩ : ∃ z, v2.heap.size = z := ⟨_, rfl⟩
 have HM3 := Lib.hid (HM2.out.below hal)
 have HB3 := Lib.hid (HB2.out.trans (hal.mono HB2.out.size))
 have HRD3 := Lib.hid (HRD.out.step hal)
 have hrg3 : v3.rangeAt gs (i * 10) [.int .i64 x.c.who, .int .i64 x.c.rev, .int .i64 x.c.seq, .string x.c.text, .bool x.c.fly, .slice a1 a2 a3, .bool x.c.wait, .slice b1 b2 b3] := by
  obtain ⟨a9, e9_, _, at9⟩ := HM3.out.at_ HX.out
  rw [HA.out] at e9_
  have e9_ := Option.some.inj e9_
  subst e9_
  exact client_rng at9
 have HRG3 := Lib.hid hrg3
 rw [hz] at kz ⊢
 have KZ3 := Lib.hid kz
 clear HM2 HB2 HRD HRG HRL hrg3 hv3 hz kz hal d0 d1 d2 hbl lg
 have lg := HM3.out.kg.lt
 go_upto_region 7 with (first | (refine wpList_load_mid rfl _ (.tmp 60) rfl gs (i * 10) rfl [.int .i64 x.c.who, .int .i64 x.c.rev, .int .i64 x.c.seq, .string x.c.text, .bool x.c.fly, .slice a1 a2 a3, .bool x.c.wait, .slice b1 b2 b3] _ HRG3.out Try.underlying92 rfl client_info ?_) | (refine wpList_store_blk rfl _ (.tmp 9) (.tmp 61) rfl v3.heap.size #[.int .i64 x.c.who, .int .i64 x.c.rev, .int .i64 x.c.seq, .string x.c.text, .bool x.c.fly, .slice a1 a2 a3, .bool x.c.wait, .slice b1 b2 b3] rfl rfl _ _ (Blk.new v3 _ _) client_info rfl (by simp [Value.oneCell']) ?_))
 have ky := (Blk.new v3 92 #[.int .i64 0, .int .i64 0, .int .i64 0, .string ⟨#[]⟩, .bool false, .slice none 0 0, .bool false, .slice none 0 0]).row #[.int .i64 x.c.who, .int .i64 x.c.rev, .int .i64 x.c.seq, .string x.c.text, .bool x.c.fly, .slice a1 a2 a3, .bool x.c.wait, .slice b1 b2 b3]
 have hal := below_setRow ((Below.refl v3.heap.size v3).alloc (Nat.le_refl _) (.cells #[.int .i64 0, .int .i64 0, .int .i64 0, .string ⟨#[]⟩, .bool false, .slice none 0 0, .bool false, .slice none 0 0] 92)) v3.heap.size #[.int .i64 x.c.who, .int .i64 x.c.rev, .int .i64 x.c.seq, .string x.c.text, .bool x.c.fly, .slice a1 a2 a3, .bool x.c.wait, .slice b1 b2 b3] (Nat.le_refl _)
 obtain ⟨v4, hv4⟩ : ∃ v4, (v3.alloc (.cells #[.int .i64 0, .int .i64 0, .int .i64 0, .string ⟨#[]⟩, .bool false, .slice none 0 0, .bool false, .slice none 0 0] 92)).setRow v3.heap.size #[.int .i64 x.c.who, .int .i64 x.c.rev, .int .i64 x.c.seq, .string x.c.text, .bool x.c.fly, .slice a1 a2 a3, .bool x.c.wait, .slice b1 b2 b3] = v4 := ⟨_, rfl⟩
 rw [hv4] at ky hal ⊢
 obtain ⟨y, hy⟩ : ∃ y, v3.heap.size = y := ⟨_, rfl⟩
 have HM4 := Lib.hid (HM3.out.below hal)
 have HB4 := Lib.hid (HB3.out.trans (hal.mono HB3.out.size))
 have HRD4 := Lib.hid (HRD3.out.step hal)
 have KZ := Lib.hid (KZ3.out.below hal KZ3.out.lt)
 rw [hy] at ky ⊢
 have KY := Lib.hid ky
 clear HM3 HB3 HRD3 KZ3 HRG3 hv4 hy ky hal lg
 have HIN := Lib.hid (HIN0.out v4 A1 n1 c1 HM4.out HRD4.out)
 refine wp_region_held (S := fun w' => Blk w' y 92 #[.int .i64 x.c.who, .int .i64 x.c.rev, .int .i64 x.c.seq, .string x.c.text, .bool x.c.fly, .slice a1 a2 a3, .bool x.c.wait, .slice b1 b2 b3] ∧ w'.cell? ⟨gs, i * 10 + 9, none⟩ = some (.int .i64 x.told) ∧ w'.cell? ⟨z, 0, none⟩ = some (.int .i64 ra) ∧ w'.cell? ⟨z, 1, none⟩ = some (.int .i64 rb) ∧ w'.cell? ⟨z, 2, none⟩ = some (.slice A1 n1 c1)) (by kernel_rfl) ?_
 have hS : Blk v4.drew y 92 #[.int .i64 x.c.who, .int .i64 x.c.rev, .int .i64 x.c.seq, .string x.c.text, .bool x.c.fly, .slice a1 a2 a3, .bool x.c.wait, .slice b1 b2 b3] ∧ v4.drew.cell? ⟨gs, i * 10 + 9, none⟩ = some (.int .i64 x.told) ∧ v4.drew.cell? ⟨z, 0, none⟩ = some (.int .i64 ra) ∧ v4.drew.cell? ⟨z, 1, none⟩ = some (.int .i64 rb) ∧ v4.drew.cell? ⟨z, 2, none⟩ = some (.slice A1 n1 c1) := ⟨KY.out.drew, (HM4.out.kg.drew.cell _).trans HR9.out, KZ.out.drew.cell 0, KZ.out.drew.cell 1, KZ.out.drew.cell 2⟩
 change wpAnyH _ _ _ _ _ _ _ _ v4.drew
 refine tkZ 63 0 rfl rfl (.pointer (some ⟨gs, i * 10, none⟩)) (.inl ⟨rfl, fun w' h' => by go_simp⟩) hS ?_
 simp only [Act.put, zA, zB, zC]
 refine tkZ 64 1 rfl rfl (.agg #[.int .i64 x.c.who, .int .i64 x.c.rev, .int .i64 x.c.seq, .string x.c.text, .bool x.c.fly, .slice a1 a2 a3, .bool x.c.wait, .slice b1 b2 b3]) (.inl ⟨rfl, fun w' h' => exec_load_blk _ _ rfl y rfl _ (client_row h'.1 rfl)⟩) hS ?_
 simp only [Act.put, zA, zB, zC]
 refine tkZ 65 2 rfl rfl (.pointer (some ⟨gs, i * 10, none⟩)) (.inl ⟨rfl, fun w' h' => by go_simp⟩) hS ?_
 simp only [Act.put, zA, zB, zC]
 refine tkZ 66 3 rfl rfl (.pointer (some ⟨gs, i * 10, none⟩)) (.inl ⟨rfl, fun w' h' => by go_simp⟩) hS ?_
 simp only [Act.put, zA, zB, zC]
 refine tkZ 67 4 rfl rfl (.pointer (some ⟨gs, i * 10 + 9, none⟩)) (.inl ⟨rfl, fun w' h' => by go_simp⟩) hS ?_
 simp only [Act.put, zA, zB, zC]
 refine tkZ 68 5 rfl rfl (.int .i64 x.told) (.inl ⟨rfl, fun w' h' => by obtain ⟨-, h2, h3, h4, h5⟩ := h'; go_simp⟩) hS ?_
 simp only [Act.put, zA, zB, zC]
 refine tkZ 69 6 rfl rfl (.pointer (some ⟨z, 0, none⟩)) (.inl ⟨rfl, fun w' h' => by go_simp⟩) hS ?_
 simp only [Act.put, zA, zB, zC]
 refine tkZ 70 7 rfl rfl (.int .i64 ra) (.inl ⟨rfl, fun w' h' => by obtain ⟨-, h2, h3, h4, h5⟩ := h'; go_simp⟩) hS ?_
 simp only [Act.put, zA, zB, zC]
 refine tkZ 71 8 rfl rfl (.pointer (some ⟨z, 1, none⟩)) (.inl ⟨rfl, fun w' h' => by go_simp⟩) hS ?_
 simp only [Act.put, zA, zB, zC]
 refine tkZ 72 9 rfl rfl (.int .i64 rb) (.inl ⟨rfl, fun w' h' => by obtain ⟨-, h2, h3, h4, h5⟩ := h'; go_simp⟩) hS ?_
 simp only [Act.put, zA, zB, zC]
 refine tkZ 73 10 rfl rfl (.pointer (some ⟨z, 2, none⟩)) (.inl ⟨rfl, fun w' h' => by go_simp⟩) hS ?_
 simp only [Act.put, zA, zB, zC]
 refine tkZ 74 11 rfl rfl (.slice A1 n1 c1) (.inl ⟨rfl, fun w' h' => by obtain ⟨-, h2, h3, h4, h5⟩ := h'; go_simp⟩) hS ?_
 simp only [Act.put, zA, zB, zC]
 refine tkZ 75 12 rfl rfl (.agg #[.int .i64 x.told, .int .i64 ra, .int .i64 rb, .slice A1 n1 c1]) (.inl ⟨rfl, fun w' h' => by go_simp⟩) hS ?_
 simp only [Act.put, zA, zB, zC]
 have hcc_ := HIN.out
 refine wpAnyH_all (rs := [13]) (by kernel_rfl) (List.cons_ne_nil _ _) (fun i13 hi13 => ?_)
 obtain rfl := List.mem_singleton.1 hi13
 refine wpOp_enterE 76 rfl rfl rfl 74 #[.agg #[.int .i64 x.c.who, .int .i64 x.c.rev, .int .i64 x.c.seq, .string x.c.text, .bool x.c.fly, .slice a1 a2 a3, .bool x.c.wait, .slice b1 b2 b3], .agg #[.int .i64 x.told, .int .i64 ra, .int .i64 rb, .slice A1 n1 c1]] (by go_simp) (fun v w' => ∃ s1 h1 : Sl, v = .tuple #[clv C2 s1 h1, .int .i64 0] ∧ OwnSl w' v4.drew.heap.size s1 C2.sent ∧ OwnSl w' v4.drew.heap.size h1 C2.held ∧ Below v4.drew.heap.size v4.drew w') hcc_ ?_
 intro vv5 v5 hv5
 clear hcc_
 obtain ⟨⟨s1, s2, s3⟩, ⟨t1, t2, t3⟩, rfl, hos, hot, hbb⟩ := hv5
 unfold clv clc
 have hb5 : Below v4.heap.size v4 v5 := (Below.drew (Below.refl _ _)).trans hbb
 have HM5 := Lib.hid (HM4.out.below hb5)
 have KY5 := Lib.hid (KY.out.below hb5 KY.out.lt)
 have KZ5 := Lib.hid (KZ.out.below hb5 KZ.out.lt)
 have hSv5 : Blk v5 y 92 #[.int .i64 x.c.who, .int .i64 x.c.rev, .int .i64 x.c.seq, .string x.c.text, .bool x.c.fly, .slice a1 a2 a3, .bool x.c.wait, .slice b1 b2 b3] ∧ v5.cell? ⟨gs, i * 10 + 9, none⟩ = some (.int .i64 x.told) ∧ v5.cell? ⟨z, 0, none⟩ = some (.int .i64 ra) ∧ v5.cell? ⟨z, 1, none⟩ = some (.int .i64 rb) ∧ v5.cell? ⟨z, 2, none⟩ = some (.slice A1 n1 c1) := ⟨KY5.out, (HM5.out.kg.cell _).trans HR9.out, KZ5.out.cell 0, KZ5.out.cell 1, KZ5.out.cell 2⟩
 have HB5 := Lib.hid (HB4.out.trans (hb5.mono HB4.out.size))
 have hlt4 := HM4.out.flt
 have hsz4 : v4.drew.heap.size = v4.heap.size := rfl
 have hd1 : DtW v5 F (s1, s2, s3) C2.sent := ⟨own_base hos (Nat.zero_le _), fun k hk hf => by have h1 := own_ge hos k hk; have h2 := hlt4 k hf; omega⟩
 have hd2 : DtW v5 F (t1, t2, t3) C2.held := ⟨own_base hot (Nat.zero_le _), fun k hk hf => by have h1 := own_ge hot k hk; have h2 := hlt4 k hf; omega⟩
 have HD1 := Lib.hid hd1
 have HD2 := Lib.hid hd2
 clear hb5 hbb hos hot hd1 hd2 hlt4 hsz4
 simp only [Act.put, zA, zB, zC]
 refine ⟨hSv5, ?_⟩
 refine tkZ 62 14 rfl rfl (.tuple #[.agg #[.int .i64 C2.who, .int .i64 C2.rev, .int .i64 C2.seq, .string C2.text, .bool C2.fly, .slice s1 s2 s3, .bool C2.wait, .slice t1 t2 t3], .int .i64 0]) (.inl ⟨rfl, fun w' h' => by go_simp⟩) hSv5 ?_
 simp only [Act.put, zA, zB, zC]
 refine tkZ 77 15 rfl rfl (.agg #[.int .i64 C2.who, .int .i64 C2.rev, .int .i64 C2.seq, .string C2.text, .bool C2.fly, .slice s1 s2 s3, .bool C2.wait, .slice t1 t2 t3]) (.inl ⟨rfl, fun w' h' => by go_simp⟩) hSv5 ?_
 simp only [Act.put, zA, zB, zC]
 refine tkZ 78 16 rfl rfl (.int .i64 0) (.inl ⟨rfl, fun w' h' => by go_simp⟩) hSv5 ?_
 simp only [Act.put, zA, zB, zC]
 refine tkZ 79 17 rfl rfl (.pointer (some ⟨gs, i * 10, none⟩)) (.inl ⟨rfl, fun w' h' => by go_simp⟩) hSv5 ?_
 simp only [Act.put, zA, zB, zC]
 refine tkZ 80 18 rfl rfl (.pointer (some ⟨gs, i * 10, none⟩)) (.inl ⟨rfl, fun w' h' => by go_simp⟩) hSv5 ?_
 simp only [Act.put, zA, zB, zC]
 refine wpAnyH_all (rs := [19]) (by kernel_rfl) (List.cons_ne_nil _ _) (fun ie hie => ?_)
 obtain rfl := List.mem_singleton.1 hie
 refine wpOp_at rfl rfl ?_
 have hth := HM5.out.kg.there (o := i * 10) (n := 8) (by rw [List.size_toArray, List.length_append, rowW_len X E HM5.out.le, HNN.out]; omega)
 refine wp_store_mid 92 (.tmp 80) (.tmp 77) rfl gs (i * 10) #[.int .i64 C2.who, .int .i64 C2.rev, .int .i64 C2.seq, .string C2.text, .bool C2.fly, .slice s1 s2 s3, .bool C2.wait, .slice t1 t2 t3] rfl rfl hth client_info (by simp [Value.oneCell']) ?_
 simp only [Act.put, zA, zB, zC]
 have kg6 := Blk.setMany (w := v5) [.int .i64 C2.who, .int .i64 C2.rev, .int .i64 C2.seq, .string C2.text, .bool C2.fly, .slice s1 s2 s3, .bool C2.wait, .slice t1 t2 t3] (i * 10) v5 _ HM5.out.kg
 rw [show setL (rowW X E ++ sp).toArray (i * 10) [.int .i64 C2.who, .int .i64 C2.rev, .int .i64 C2.seq, .string C2.text, .bool C2.fly, .slice s1 s2 s3, .bool C2.wait, .slice t1 t2 t3] = (rowW (X.set i { x with c := C2 }) (E.set i ((s1, s2, s3), (t1, t2, t3), (u1, u2, u3))) ++ sp).toArray from rowW_client HX.out HA.out HM5.out.le C2 (s1, s2, s3) (t1, t2, t3)] at kg6
 have ho6 := Only.setMany gs [.int .i64 C2.who, .int .i64 C2.rev, .int .i64 C2.seq, .string C2.text, .bool C2.fly, .slice s1 s2 s3, .bool C2.wait, .slice t1 t2 t3] (i * 10) v5
 change _ ∧ _
 obtain ⟨W6, hW6⟩ : ∃ W6, v5.setCells gs (i * 10) [.int .i64 C2.who, .int .i64 C2.rev, .int .i64 C2.seq, .string C2.text, .bool C2.fly, .slice s1 s2 s3, .bool C2.wait, .slice t1 t2 t3] = W6 := ⟨_, rfl⟩
 have hW6' : v5.setCells gs (i * 10) (#[.int .i64 C2.who, .int .i64 C2.rev, .int .i64 C2.seq, .string C2.text, .bool C2.fly, .slice s1 s2 s3, .bool C2.wait, .slice t1 t2 t3]).toList = W6 := hW6
 rw [hW6] at kg6 ho6
 rw [hW6']
 have hss := HM5.out.ss i x _ HX.out HA.out
 have hS9 : ∀ k, k = gs → F k ∨ ∃ cs t, Blk v5 k t cs ∧ t ≠ 88 := fun k hk => .inr ⟨_, _, hk ▸ HM5.out.kg, by decide⟩
 have hus : UpW W6 F (u1, u2, u3) x.up := hss.u.only ho6 hS9 (fun k hk e => by
  obtain ⟨_, cur, hc⟩ := upB_blk hss.u hk
  exact Blk.ne_ hc HM5.out.kg (by decide) e)
 have hM6 : WdM W6 F q sq gs cap (E.set i ((s1, s2, s3), (t1, t2, t3), (u1, u2, u3))) sp s (X.set i { x with c := C2 }) put edits :=
  HM5.out.seat (x := { x with c := C2 }) (a := ((s1, s2, s3), (t1, t2, t3), (u1, u2, u3))) HX.out HA.out (ho6.mono fun k _ hk => .inl hk) kg6 ⟨HD1.out.only ho6 hS9, HD2.out.only ho6 hS9, hus⟩ (fun g hg => .inl hg)
 have ky6 := KY5.out.only ho6 (Blk.ne_ KY5.out HM5.out.kg (by decide))
 have kz6 := KZ5.out.only ho6 (Blk.ne_ KZ5.out HM5.out.kg (by decide))
 have hXi : (X.set i { x with c := C2 })[i]? = some { x with c := C2 } := List.getElem?_set_self (List.getElem?_eq_some_iff.1 HX.out).1
 have hAi : (E.set i ((s1, s2, s3), (t1, t2, t3), (u1, u2, u3)))[i]? = some ((s1, s2, s3), (t1, t2, t3), (u1, u2, u3)) := List.getElem?_set_self (by rw [HM5.out.le]; exact (List.getElem?_eq_some_iff.1 HX.out).1)
 obtain ⟨a6, e6, _, at6⟩ := hM6.at_ hXi
 rw [hAi] at e6
 have e6 := Option.some.inj e6
 subst e6
 have e96 : W6.cell? ⟨gs, i * 10 + 9, none⟩ = some (.int .i64 x.told) := at6 9 (by decide)
 have hS6 : Blk W6 y 92 #[.int .i64 x.c.who, .int .i64 x.c.rev, .int .i64 x.c.seq, .string x.c.text, .bool x.c.fly, .slice a1 a2 a3, .bool x.c.wait, .slice b1 b2 b3] ∧ W6.cell? ⟨gs, i * 10 + 9, none⟩ = some (.int .i64 x.told) ∧ W6.cell? ⟨z, 0, none⟩ = some (.int .i64 ra) ∧ W6.cell? ⟨z, 1, none⟩ = some (.int .i64 rb) ∧ W6.cell? ⟨z, 2, none⟩ = some (.slice A1 n1 c1) := ⟨ky6, e96, kz6.cell 0, kz6.cell 1, kz6.cell 2⟩
 refine ⟨hS6, ?_⟩
 refine wpAnyH_done (by kernel_rfl) ?_ _
 have HM6 := Lib.hid hM6
 have HO6 := Lib.hid ((Only.of_below (S := P) HB5.out).trans (ho6.mono fun k _ hk => by rw [hk]; exact HPg.out))
 have KY6 := Lib.hid ky6
 have KZ6 := Lib.hid kz6
 have HXI := Lib.hid hXi
 have HAI := Lib.hid hAi
 have hie8 : True := trivial
 clear hS hS6 hSv5 kg6 ho6 hW6 hW6' hss hS9 hus hM6 ky6 kz6 hXi hAi HD1 HD2 HM5 KY5 KZ5 HB5 HM4 KZ KY HB4 HRD4 HIN HIN0 hth hie8
 have f96 := HM6.out.kg.frozen (i * 10 + 9)
 have lg6 := HM6.out.kg.lt
 have hwt : IntKind.i64.wrap ((x.told : Int) + 1) = (x.told : Int) + 1 := IntWalk.i64_in _ (by omega)
 clear at6
 go_upto_region 9 with (fail)
 have kg7 := HM6.out.kg.set_ (i * 10 + 9) (.int .i64 ((x.told : Int) + 1))
 rw [rowW_cell (x := { x with c := C2 }) (x' := ⟨C2, x.up, x.told + 1⟩) (a' := ((s1, s2, s3), (t1, t2, t3), (u1, u2, u3))) HXI.out HAI.out HM6.out.le 9 _ (by decide) (by simp [stc]), List.set_set, List.set_set] at kg7
 have ho7 := Only.setSelf W6 gs (i * 10 + 9) (.int .i64 ((x.told : Int) + 1))
 obtain ⟨W7, hW7⟩ : ∃ W7, W6.setCell ⟨gs, i * 10 + 9, none⟩ (.int .i64 ((x.told : Int) + 1)) = W7 := ⟨_, rfl⟩
 rw [hW7] at kg7 ho7 ⊢
 have hss := HM6.out.ss i _ _ HXI.out HAI.out
 have hS9 : ∀ k, k = gs → F k ∨ ∃ cs t, Blk W6 k t cs ∧ t ≠ 88 := fun k hk => .inr ⟨_, _, hk ▸ HM6.out.kg, by decide⟩
 have hM7 : WdM W7 F q sq gs cap (E.set i ((s1, s2, s3), (t1, t2, t3), (u1, u2, u3))) sp s (X.set i ⟨C2, x.up, x.told + 1⟩) put edits := by
  have hh := HM6.out.seat (x := ⟨C2, x.up, x.told + 1⟩) (a := ((s1, s2, s3), (t1, t2, t3), (u1, u2, u3))) HXI.out HAI.out (ho7.mono fun k _ hk => .inl hk) (by rw [List.set_set, List.set_set]; exact kg7) ⟨hss.s.only ho7 hS9, hss.h.only ho7 hS9, hss.u.only ho7 hS9 (fun k hk e => by
   obtain ⟨_, cur, hc⟩ := upB_blk hss.u hk
   exact Blk.ne_ hc HM6.out.kg (by decide) e)⟩ (fun g hg => .inl hg)
  rw [List.set_set, List.set_set] at hh
  exact hh
 have hO7 : Only w W7 P := HO6.out.trans (ho7.mono fun k _ hk => by rw [hk]; exact HPg.out)
 have hP7 : WdS W7 (grow P w W7) F sq q s (X.set i ⟨C2, x.up, x.told + 1⟩) put edits := by
  refine ⟨gs, cap, _, sp, hM7, .inl HPq.out, .inl HPg.out, ?_⟩
  intro j b hb z hz
  by_cases hj : j = i
  · subst hj
    rw [List.getElem?_set_self (by have := HM6.out.le; rw [List.length_set, List.length_set] at this; rw [this]; exact (List.getElem?_eq_some_iff.1 HX.out).1)] at hb
    have hb := Option.some.inj hb
    subst hb
    exact .inl (HPu.out _ _ HA.out z hz)
  · rw [List.getElem?_set_ne (Ne.symm hj)] at hb
    exact .inl (HPu.out j b hb z hz)
 have ky7 := KY6.out.only ho7 (Blk.ne_ KY6.out HM6.out.kg (by decide))
 have kz7 := KZ6.out.only ho7 (Blk.ne_ KZ6.out HM6.out.kg (by decide))
 have hX7 : (X.set i ⟨C2, x.up, x.told + 1⟩)[i]? = some ⟨C2, x.up, x.told + 1⟩ := List.getElem?_set_self (List.getElem?_eq_some_iff.1 HX.out).1
 obtain ⟨a7, e7_, _, at7⟩ := hM7.at_ hX7
 have e47 : W7.cell? ⟨gs, i * 10 + 4, none⟩ = some (.bool C2.fly) := at7 4 (by decide)
 have z0 : W7.cell? ⟨z, 0, none⟩ = some (.int .i64 ra) := kz7.cell 0
 have z1 : W7.cell? ⟨z, 1, none⟩ = some (.int .i64 rb) := kz7.cell 1
 have y4 : W7.cell? ⟨y, 4, none⟩ = some (.bool x.c.fly) := ky7.cell 4
 have y2 : W7.cell? ⟨y, 2, none⟩ = some (.int .i64 x.c.seq) := ky7.cell 2
 have lz := kz7.lt
 have ly := ky7.lt
 have lg7 := hM7.kg.lt
 have HO7 := Lib.hid hO7
 have HP7 := Lib.hid hP7
 have HX7 := Lib.hid hX7
 clear f96 lg6 e96 hwt kg7 ho7 hW7 hss hS9 hM7 hO7 hP7 ky7 kz7 hX7 at7 e7_ HM6 HO6 KY6 KZ6 HXI HAI
 have hqe : (ra == (i : Int)) = true := by rw [← HH1.out, HWH.out]; simp
 have hqs : (rb == x.c.seq) = true := by rw [← HH2.out]; simp
 have hfl2 : C2.fly = x.c.wait := by rw [← HC2.out]; rfl
 rw [HFL.out] at y4
 rw [hfl2] at e47
 have HF2 := Lib.hid hfl2
 clear hfl2
 obtain ⟨QW, hQW⟩ : ∃ b, x.c.wait = b := ⟨_, rfl⟩
 rw [hQW] at e47
 have HQW := Lib.hid hQW
 clear hQW
 cases QW with
 | false =>
   go_wp2_with fail
   go_ret
   refine ⟨rfl, ?_, HO7.out⟩
   have hy := HY.out
   rw [if_neg (by rw [HQW.out]; simp)] at hy
   rw [hy]
   exact HP7.out
 | true =>
   have hsay := wsay_S W7 (grow P w W7) F sq q s (X.set i ⟨C2, x.up, x.told + 1⟩) put edits HP7.out i ⟨C2, x.up, x.told + 1⟩ HX7.out (by show C2.fly = true; rw [HF2.out, HQW.out]) HUP.out HK2.out
   have Hsay := Lib.hid hsay
   clear hsay
   go_wp2_with fail
   refine Hsay.out.mono ?_
   rintro e W8 ⟨rfl, hP8, hO8⟩
   rw [List.set_set] at hP8
   have HP8 := Lib.hid (hP8.mono (P' := grow P w W8) fun k hk hg => grow_grow HO7.out.2.2.2.1 hO8.2.2.2.1 hg)
   have HO8 := Lib.hid (HO7.out.trans_grow hO8)
   clear hP8 hO8 Hsay HP7 HO7 z0 z1 y4 y2 e47 lz ly lg7
   go_wp2_with fail
   go_ret
   refine ⟨rfl, ?_, HO8.out⟩
   have hy := HY.out
   rw [if_pos HQW.out] at hy
   rw [hy]
   exact HP8.out
theorem wdown_other_S (w : World) (P F : Nat → Prop) (sq q : Nat) (s : Sh) (X : List St) (put edits : Int) (h : WdS w P F sq q s X put edits) (i : Nat) (x : St) (hx : X[i]? = some x) (hck : CkOk x.c) (hb : s.log.base = 0) (hlt : x.told < s.log.revs.length) (hrev : x.c.rev = (x.told : Int)) (hwho : x.c.who = (i : Int)) (ra rb : Int) (dd : List Pt) (hr : s.log.revs[x.told] = (ra, rb, dd)) (C2 : Cl) (h1 : ra ≠ x.c.who) (hE : inE x.c dd = 0) (hC2 : inL x.c dd = C2) :
 Calls Try.prog 27 #[.pointer (some ⟨q, 0, none⟩), .int .i64 i] w fun e w' => e = .returned (.bool true) ∧ WdS w' (grow P w w') F sq q s (X.set i ⟨C2, x.up, x.told + 1⟩) put edits ∧ Only w w' P := by
 obtain ⟨gs, cap, E, sp, h, hPq, hPg, hPu⟩ := h
 obtain ⟨N, hN⟩ : ∃ N, X.length = N := ⟨_, rfl⟩
 have hkq := h.kq
 have hc1 := h.c1
 have hc2 := h.c2
 rw [hN] at hkq hc1
 have hcp : (N : Int) ≤ (cap : Int) := by omega
 have hcm : (cap : Int) ≤ 9223372036854775807 := by simp only [maxLen] at hc2; omega
 have hN0 : (0 : Int) ≤ (N : Int) := by omega
 have q0 : w.cell? ⟨q, 0, none⟩ = some (.pointer (some ⟨sq, 0, none⟩)) := hkq.cell 0
 have q1 : w.cell? ⟨q, 1, none⟩ = some (.slice (some ⟨gs, 0, none⟩) N cap) := hkq.cell 1
 have lq := hkq.lt
 have lg := h.kg.lt
 have hiN : i < N := by rw [← hN]; exact (List.getElem?_eq_some_iff.1 hx).1
 have hi0 : (0 : Int) ≤ (i : Int) := by omega
 have hiN' : (i : Int) < (N : Int) := by omega
 obtain ⟨⟨⟨a1, a2, a3⟩, ⟨b1, b2, b3⟩, ⟨u1, u2, u3⟩⟩, ha, hs, hat⟩ := h.at_ hx
 have hi9 : decide ((i : Int) < 0) = false := decide_eq_false (by omega)
 have hn9 : decide (N ≤ i) = false := decide_eq_false (by omega)
 have hn8 : decide ((N : Int) ≤ (i : Int)) = false := decide_eq_false (by omega)
 have e9 : w.cell? ⟨gs, i * 10 + 9, none⟩ = some (.int .i64 x.told) := hat 9 (by decide)
 have row9 : (rowW X E ++ sp).toArray[i * 10 + 9]? = some (.int .i64 x.told) := (h.kg.cell _).symm.trans e9
 have HR9 := Lib.hid row9
 have hh := shead_B sq s none 0 1 w.drew (ShB.of ((h.below (Below.drew (Below.refl _ _))).sh) (fun _ _ => Nat.zero_le _))
 rw [hb, Int.zero_add] at hh
 obtain ⟨LR, hLR⟩ : ∃ LR, s.log.revs.length = LR := ⟨_, rfl⟩
 rw [hLR] at hh
 have HH := Lib.hid hh
 have HLR := Lib.hid hLR
 have heq : ((x.told : Int) == (LR : Int)) = false := by
  have : x.told ≠ LR := by rw [← hLR]; omega
  simpa using (show ¬ (x.told : Int) = (LR : Int) by omega)
 have hlt' : x.told < 1000 := by have := h.sh.inv.log.len; omega
 obtain ⟨ct1, ct2⟩ := ckok_txt hck
 obtain ⟨cn1, cn2⟩ := ckok_len hck
 have Hr := Lib.hid (client_rng hat)
 have hdrop : s.log.revs.drop x.told = (ra, rb, dd) :: s.log.revs.drop (x.told + 1) := by rw [← hr]; exact List.drop_eq_getElem_cons hlt
 have hrv := fun (w' : World) (hM : WdM w' F q sq gs cap E sp s X put edits) => (srevs_B sq s none 0 1 (x.told : Int) x.told w' (ShB.of hM.sh (fun _ _ => Nat.zero_le _)) (by rw [hb, Int.zero_add]) (Nat.le_of_lt hlt)).mono (R' := fun e w'' => ∃ v, e = .returned v ∧ ∃ (sl' : Sl) (ss : List Sl), v = .tuple #[.slice sl'.1 sl'.2.1 sl'.2.2, .int .i64 0] ∧ OwnV w'' w'.heap.size (.slice sl'.1 sl'.2.1 sl'.2.2) ss (s.log.revs.drop x.told) ∧ Below w'.heap.size w' w'') (fun e w'' hh => by
  obtain ⟨sl', ss, e1, e2, e3⟩ := hh
  exact ⟨_, e1, sl', ss, rfl, e2, e3⟩)
 have HRV0 := Lib.hid hrv
 have HDR := Lib.hid hdrop
 have hin : ∀ (v4 : World) (A1 : Option Addr) (n1 c1 : Nat), WdM v4 F q sq gs cap E sp s X put edits → RdP v4 v4.heap.size A1 n1 c1 dd → Calls Try.prog 74 #[.agg #[.int .i64 x.c.who, .int .i64 x.c.rev, .int .i64 x.c.seq, .string x.c.text, .bool x.c.fly, .slice a1 a2 a3, .bool x.c.wait, .slice b1 b2 b3], .agg #[.int .i64 x.told, .int .i64 ra, .int .i64 rb, .slice A1 n1 c1]] v4.drew fun e w' => ∃ v, e = .returned v ∧ ∃ s1 h1 : Sl, v = .tuple #[clv C2 s1 h1, .int .i64 0] ∧ OwnSl w' v4.drew.heap.size s1 C2.sent ∧ OwnSl w' v4.drew.heap.size h1 C2.held ∧ Below v4.drew.heap.size v4.drew w' := by
  intro v4 A1 n1 c1 hM hrp0
  have hMd := hM.below (Below.drew (Below.refl _ _))
  have hsd := hMd.ss i x _ hx ha
  have hrp : RdP v4.drew v4.drew.heap.size A1 n1 c1 dd := hrp0.step (Below.drew (Below.refl _ _))
  have hn1_ : a2 ≤ 4000000 := by have e9 := own_n hsd.s.1; simp only at e9; omega
  have hn2_ : b2 ≤ 4000000 := by have e9 := own_n hsd.h.1; simp only at e9; omega
  have hmono : ∀ (e : Ending) (w' : World), (∃ s1 h1 : Sl, e = .returned (.tuple #[clv (inL x.c dd) s1 h1, .int .i64 0]) ∧ OwnSl w' v4.drew.heap.size s1 (inL x.c dd).sent ∧ OwnSl w' v4.drew.heap.size h1 (inL x.c dd).held ∧ Below v4.drew.heap.size v4.drew w') → ∃ v, e = .returned v ∧ ∃ s1 h1 : Sl, v = .tuple #[clv C2 s1 h1, .int .i64 0] ∧ OwnSl w' v4.drew.heap.size s1 C2.sent ∧ OwnSl w' v4.drew.heap.size h1 C2.held ∧ Below v4.drew.heap.size v4.drew w' := by
   rintro e w' ⟨s1, h1, e1, e2, e3, e4⟩
   rw [hC2] at e1 e2 e3
   exact ⟨_, e1, s1, h1, rfl, e2, e3, e4⟩
  have key : Calls Try.prog 74 #[clv x.c (a1, a2, a3) (b1, b2, b3), mgv x.c.rev ra rb (A1, n1, c1)] v4.drew fun e w' => ∃ v, e = .returned v ∧ ∃ s1 h1 : Sl, v = .tuple #[clv C2 s1 h1, .int .i64 0] ∧ OwnSl w' v4.drew.heap.size s1 C2.sent ∧ OwnSl w' v4.drew.heap.size h1 C2.held ∧ Below v4.drew.heap.size v4.drew w' := by
   have hcc := cin_good x.c (a1, a2, a3) (b1, b2, b3) ra rb dd A1 n1 c1 v4.drew hck (rdS_ hsd.s.1 ct1) (rdS_ hsd.h.1 ct2) hrp hn1_ hn2_ (by rw [hrev]; have := hlt'; omega) h1 hE
   have hiR : inR x.c dd = inL x.c dd := by unfold inR; rw [if_pos hE]
   rw [hiR, hE] at hcc
   exact hcc.mono hmono
  rw [← hrev]
  exact key
 have HIN0 := Lib.hid hin
 have HREV := Lib.hid hrev
 have HWH := Lib.hid hwho
 have HC2 := Lib.hid hC2
 have HH1 := Lib.hid h1
 have HM := Lib.hid h
 have HX := Lib.hid hx
 have HA := Lib.hid ha
 have HS := Lib.hid hs
 have HPq := Lib.hid hPq
 have HPg := Lib.hid hPg
 have HPu := Lib.hid hPu
 have HNN := Lib.hid hN
 clear h hx ha hs hat hkq hc1 hc2 hN hPq hPg hPu
 clear hh hLR row9 hrv hdrop hin hr hrev hwho hC2 ct1 ct2 cn1 cn2 h1 hck hlt hE
 go_enter Try.func27, Try.ntmps27
 go_upto_region 1 with (fail)
 refine wp_region_held (S := fun w' => w'.cell? ⟨q, 0, none⟩ = some (.pointer (some ⟨sq, 0, none⟩)) ∧ w'.cell? ⟨q, 1, none⟩ = some (.slice (some ⟨gs, 0, none⟩) N cap) ∧ w'.cell? ⟨gs, i * 10 + 9, none⟩ = some (.int .i64 x.told)) (by kernel_rfl) ?_
 have hS : w.drew.cell? ⟨q, 0, none⟩ = some (.pointer (some ⟨sq, 0, none⟩)) ∧ w.drew.cell? ⟨q, 1, none⟩ = some (.slice (some ⟨gs, 0, none⟩) N cap) ∧ w.drew.cell? ⟨gs, i * 10 + 9, none⟩ = some (.int .i64 x.told) := ⟨q0, q1, e9⟩
 change wpAnyH _ _ _ _ _ _ _ _ w.drew
 refine tkZ 10 0 rfl rfl (.int .i64 i) (.inl ⟨rfl, fun w' h' => by go_simp⟩) hS ?_
 simp only [Act.put, zA, zB, zC]
 refine tkZ 11 1 rfl rfl (.bool false) (.inl ⟨rfl, fun w' h' => by go_simp⟩) hS ?_
 simp only [Act.put, zA, zB, zC]
 refine tkZ 12 2 rfl rfl (.bool false) (.inl ⟨rfl, fun w' h' => by go_simp⟩) hS ?_
 simp only [Act.put, zA, zB, zC]
 refine tkZ 13 3 rfl rfl (.int .i64 i) (.inl ⟨rfl, fun w' h' => by go_simp⟩) hS ?_
 simp only [Act.put, zA, zB, zC]
 refine tkZ 14 4 rfl rfl (.pointer (some ⟨q, 0, none⟩)) (.inl ⟨rfl, fun w' h' => by go_simp⟩) hS ?_
 simp only [Act.put, zA, zB, zC]
 refine tkZ 15 5 rfl rfl (.pointer (some ⟨q, 0, none⟩)) (.inl ⟨rfl, fun w' h' => by go_simp⟩) hS ?_
 simp only [Act.put, zA, zB, zC]
 refine tkZ 16 6 rfl rfl (.pointer (some ⟨q, 1, none⟩)) (.inl ⟨rfl, fun w' h' => by go_simp⟩) hS ?_
 simp only [Act.put, zA, zB, zC]
 refine tkZ 17 7 rfl rfl (.slice (some ⟨gs, 0, none⟩) N cap) (.inl ⟨rfl, fun w' h' => by obtain ⟨h1, h2, h3⟩ := h'; go_simp⟩) hS ?_
 simp only [Act.put, zA, zB, zC]
 refine tkZ 18 8 rfl rfl (.int .i64 N) (.inl ⟨rfl, fun w' h' => by go_simp⟩) hS ?_
 simp only [Act.put, zA, zB, zC]
 refine tkZ 19 9 rfl rfl (.bool false) (.inl ⟨rfl, fun w' h' => by go_simp⟩) hS ?_
 simp only [Act.put, zA, zB, zC]
 refine tkZ 20 10 rfl rfl (.bool false) (.inl ⟨rfl, fun w' h' => by go_simp⟩) hS ?_
 simp only [Act.put, zA, zB, zC]
 refine tkZ 21 11 rfl rfl (.bool false) (.inl ⟨rfl, fun w' h' => by go_simp⟩) hS ?_
 simp only [Act.put, zA, zB, zC]
 refine tkZ 22 12 rfl rfl (.pointer (some ⟨q, 0, none⟩)) (.inl ⟨rfl, fun w' h' => by go_simp⟩) hS ?_
 simp only [Act.put, zA, zB, zC]
 refine tkZ 23 13 rfl rfl (.pointer (some ⟨q, 0, none⟩)) (.inl ⟨rfl, fun w' h' => by go_simp⟩) hS ?_
 simp only [Act.put, zA, zB, zC]
 refine tkZ 24 14 rfl rfl (.pointer (some ⟨q, 1, none⟩)) (.inl ⟨rfl, fun w' h' => by go_simp⟩) hS ?_
 simp only [Act.put, zA, zB, zC]
 refine tkZ 25 15 rfl rfl (.slice (some ⟨gs, 0, none⟩) N cap) (.inl ⟨rfl, fun w' h' => by obtain ⟨h1, h2, h3⟩ := h'; go_simp⟩) hS ?_
 simp only [Act.put, zA, zB, zC]
 refine tkZ 26 16 rfl rfl (.int .i64 i) (.inl ⟨rfl, fun w' h' => by go_simp⟩) hS ?_
 simp only [Act.put, zA, zB, zC]
 refine tkZ 27 17 rfl rfl (.pointer (some ⟨gs, i * 10, none⟩)) (.inl ⟨rfl, fun w' h' => by go_simp⟩) hS ?_
 simp only [Act.put, zA, zB, zC]
 refine tkZ 28 18 rfl rfl (.pointer (some ⟨gs, i * 10 + 9, none⟩)) (.inl ⟨rfl, fun w' h' => by go_simp⟩) hS ?_
 simp only [Act.put, zA, zB, zC]
 refine tkZ 29 19 rfl rfl (.int .i64 x.told) (.inl ⟨rfl, fun w' h' => by obtain ⟨h1, h2, h3⟩ := h'; go_simp⟩) hS ?_
 simp only [Act.put, zA, zB, zC]
 refine tkZ 30 20 rfl rfl (.pointer (some ⟨q, 0, none⟩)) (.inl ⟨rfl, fun w' h' => by go_simp⟩) hS ?_
 simp only [Act.put, zA, zB, zC]
 refine tkZ 31 21 rfl rfl (.pointer (some ⟨q, 0, none⟩)) (.inl ⟨rfl, fun w' h' => by go_simp⟩) hS ?_
 simp only [Act.put, zA, zB, zC]
 refine tkZ 32 22 rfl rfl (.pointer (some ⟨q, 0, none⟩)) (.inl ⟨rfl, fun w' h' => by go_simp⟩) hS ?_
 simp only [Act.put, zA, zB, zC]
 refine tkZ 33 23 rfl rfl (.pointer (some ⟨sq, 0, none⟩)) (.inl ⟨rfl, fun w' h' => by obtain ⟨h1, h2, h3⟩ := h'; go_simp⟩) hS ?_
 simp only [Act.put, zA, zB, zC]
 have hcc_ := HH.out
 refine wpAnyH_all (rs := [24]) (by kernel_rfl) (List.cons_ne_nil _ _) (fun i24 hi24 => ?_)
 obtain rfl := List.mem_singleton.1 hi24
 refine wpOp_enter 34 rfl rfl rfl 40 #[.pointer (some ⟨sq, 0, none⟩)] (by go_simp) (.int .i64 (LR : Int)) (fun w' => Below w.drew.heap.size w.drew w') hcc_ ?_
 intro v1 hv1
 simp only [Act.put, zA, zB, zC]
 clear hcc_
 have hb1 : Below w.heap.size w v1 := (Below.drew (Below.refl _ _)).trans hv1
 have HM1 := Lib.hid (HM.out.below hb1)
 have hSv1 : v1.cell? ⟨q, 0, none⟩ = some (.pointer (some ⟨sq, 0, none⟩)) ∧ v1.cell? ⟨q, 1, none⟩ = some (.slice (some ⟨gs, 0, none⟩) N cap) ∧ v1.cell? ⟨gs, i * 10 + 9, none⟩ = some (.int .i64 x.told) := ⟨HM1.out.kq.cell 0, (HM1.out.kq.cell 1).trans (by rw [HNN.out]; rfl), (HM1.out.kg.cell _).trans HR9.out⟩
 have HB1 := Lib.hid hb1
 clear hb1
 refine ⟨hSv1, ?_⟩
 refine tkZ 35 25 rfl rfl (.bool false) (.inl ⟨rfl, fun w' h' => by go_simp⟩) hSv1 ?_
 simp only [Act.put, zA, zB, zC]
 refine tkZ 36 26 rfl rfl (.bool false) (.inl ⟨rfl, fun w' h' => by go_simp⟩) hSv1 ?_
 simp only [Act.put, zA, zB, zC]
 refine wpAnyH_done (by kernel_rfl) ?_ _
 clear hSv1 hS q0 q1 e9 lq lg HH
 have q1 : v1.cell? ⟨q, 1, none⟩ = some (.slice (some ⟨gs, 0, none⟩) N cap) := (HM1.out.kq.cell 1).trans (by rw [HNN.out]; rfl)
 have lq := HM1.out.kq.lt
 have lg := HM1.out.kg.lt
 go_upto_region 4 with (fail)
 clear q1 lq lg heq hi9 hn9 hn8
 have HRV := Lib.hid (HRV0.out v1.drew (HM1.out.below (Below.drew (Below.refl _ _))))
 refine wp_region_held (S := fun w' => w'.cell? ⟨q, 0, none⟩ = some (.pointer (some ⟨sq, 0, none⟩)) ∧ w'.cell? ⟨gs, i * 10 + 9, none⟩ = some (.int .i64 x.told)) (by kernel_rfl) ?_
 have hS : v1.drew.cell? ⟨q, 0, none⟩ = some (.pointer (some ⟨sq, 0, none⟩)) ∧ v1.drew.cell? ⟨gs, i * 10 + 9, none⟩ = some (.int .i64 x.told) := ⟨HM1.out.kq.cell 0, (HM1.out.kg.cell _).trans HR9.out⟩
 change wpAnyH _ _ _ _ _ _ _ _ v1.drew
 refine tkZ 44 0 rfl rfl (.pointer (some ⟨q, 0, none⟩)) (.inl ⟨rfl, fun w' h' => by go_simp⟩) hS ?_
 simp only [Act.put, zA, zB, zC]
 refine tkZ 45 1 rfl rfl (.pointer (some ⟨q, 0, none⟩)) (.inl ⟨rfl, fun w' h' => by go_simp⟩) hS ?_
 simp only [Act.put, zA, zB, zC]
 refine tkZ 46 2 rfl rfl (.pointer (some ⟨q, 0, none⟩)) (.inl ⟨rfl, fun w' h' => by go_simp⟩) hS ?_
 simp only [Act.put, zA, zB, zC]
 refine tkZ 47 3 rfl rfl (.pointer (some ⟨sq, 0, none⟩)) (.inl ⟨rfl, fun w' h' => by obtain ⟨h1, h2⟩ := h'; go_simp⟩) hS ?_
 simp only [Act.put, zA, zB, zC]
 refine tkZ 48 4 rfl rfl (.pointer (some ⟨gs, i * 10, none⟩)) (.inl ⟨rfl, fun w' h' => by go_simp⟩) hS ?_
 simp only [Act.put, zA, zB, zC]
 refine tkZ 49 5 rfl rfl (.pointer (some ⟨gs, i * 10, none⟩)) (.inl ⟨rfl, fun w' h' => by go_simp⟩) hS ?_
 simp only [Act.put, zA, zB, zC]
 refine tkZ 50 6 rfl rfl (.pointer (some ⟨gs, i * 10 + 9, none⟩)) (.inl ⟨rfl, fun w' h' => by go_simp⟩) hS ?_
 simp only [Act.put, zA, zB, zC]
 refine tkZ 51 7 rfl rfl (.int .i64 x.told) (.inl ⟨rfl, fun w' h' => by obtain ⟨h1, h2⟩ := h'; go_simp⟩) hS ?_
 simp only [Act.put, zA, zB, zC]
 have hcc_ := HRV.out
 refine wpAnyH_all (rs := [8]) (by kernel_rfl) (List.cons_ne_nil _ _) (fun i8 hi8 => ?_)
 obtain rfl := List.mem_singleton.1 hi8
 refine wpOp_enterE 52 rfl rfl rfl 50 #[.pointer (some ⟨sq, 0, none⟩), .int .i64 x.told] (by go_simp) (fun v w' => ∃ (sl' : Sl) (ss : List Sl), v = .tuple #[.slice sl'.1 sl'.2.1 sl'.2.2, .int .i64 0] ∧ OwnV w' v1.drew.heap.size (.slice sl'.1 sl'.2.1 sl'.2.2) ss (s.log.revs.drop x.told) ∧ Below v1.drew.heap.size v1.drew w') hcc_ ?_
 intro vv2 v2 hv2
 clear hcc_
 obtain ⟨⟨r1, r2, r3⟩, ss, rfl, hov, hbb⟩ := hv2
 have hb2 : Below v1.heap.size v1 v2 := (Below.drew (Below.refl _ _)).trans hbb
 have HM2 := Lib.hid (HM1.out.below hb2)
 have hSv2 : v2.cell? ⟨q, 0, none⟩ = some (.pointer (some ⟨sq, 0, none⟩)) ∧ v2.cell? ⟨gs, i * 10 + 9, none⟩ = some (.int .i64 x.told) := ⟨HM2.out.kq.cell 0, (HM2.out.kg.cell _).trans HR9.out⟩
 have HB2 := Lib.hid (HB1.out.trans (hb2.mono HB1.out.size))
 have HOV := Lib.hid hov
 clear hb2 hbb hov
 simp only [Act.put, zA, zB, zC]
 refine ⟨hSv2, ?_⟩
 refine tkZ 43 9 rfl rfl (.tuple #[.slice r1 r2 r3, .int .i64 0]) (.inl ⟨rfl, fun w' h' => by go_simp⟩) hSv2 ?_
 simp only [Act.put, zA, zB, zC]
 refine tkZ 53 10 rfl rfl (.slice r1 r2 r3) (.inl ⟨rfl, fun w' h' => by go_simp⟩) hSv2 ?_
 simp only [Act.put, zA, zB, zC]
 refine tkZ 54 11 rfl rfl (.int .i64 0) (.inl ⟨rfl, fun w' h' => by go_simp⟩) hSv2 ?_
 simp only [Act.put, zA, zB, zC]
 refine tkZ 6 12 rfl rfl (.slice r1 r2 r3) (.inl ⟨rfl, fun w' h' => by go_simp⟩) hSv2 ?_
 simp only [Act.put, zA, zB, zC]
 refine tkZ 7 13 rfl rfl (.int .i64 0) (.inl ⟨rfl, fun w' h' => by go_simp⟩) hSv2 ?_
 simp only [Act.put, zA, zB, zC]
 refine wpAnyH_done (by kernel_rfl) ?_ _
 clear hSv2 hS HRV HRV0
 have hov := HOV.out
 simp only at hov
 rw [HDR.out] at hov
 have hln : r2 = (s.log.revs.drop (x.told + 1)).length + 1 := by
  obtain ⟨A9, c9, e9⟩ := hov.form
  injection e9 with f1 f2 f3
 obtain ⟨b, o, A1, n1, c1, rfl, hbl, d0, d1, d2, hrd⟩ := hov.rd.at_ 0 (by omega)
 simp only [Nat.zero_mul, Nat.add_zero, List.getElem_cons_zero] at d0 d1 d2 hrd
 have hr20 : (0 : Int) < (r2 : Int) := by omega
 have hr21 : 0 < r2 := by omega
 have HRD := Lib.hid hrd
 have HRL : Hid (Below v2.heap.size v2 v2) := Lib.hid (Below.refl _ _)
 have hrg : v2.rangeAt gs (i * 10) [.int .i64 x.c.who, .int .i64 x.c.rev, .int .i64 x.c.seq, .string x.c.text, .bool x.c.fly, .slice a1 a2 a3, .bool x.c.wait, .slice b1 b2 b3] := by
  obtain ⟨a9, e9_, _, at9⟩ := HM2.out.at_ HX.out
  rw [HA.out] at e9_
  have e9_ := Option.some.inj e9_
  subst e9_
  exact client_rng at9
 have HRG := Lib.hid hrg
 have lg := HM2.out.kg.lt
 clear hov hln hrd hrg HOV
 go_upto_region 6 with (fail)
 have kz := Blk.new v2 30 #[.int .i64 ra, .int .i64 rb, .slice A1 n1 c1]
 have hal := (Below.refl v2.heap.size v2).alloc (Nat.le_refl _) (.cells #[.int .i64 ra, .int .i64 rb, .slice A1 n1 c1] 30)
 obtain ⟨v3, hv3⟩ : ∃ v3, v2.alloc (.cells #[.int .i64 ra, .int .i64 rb, .slice A1 n1 c1] 30) = v3 := ⟨_, rfl⟩
 rw [hv3] at kz hal ⊢
 obtain ⟨z, hz⟩ : ∃ z, v2.heap.size = z := ⟨_, rfl⟩
 have HM3 := Lib.hid (HM2.out.below hal)
 have HB3 := Lib.hid (HB2.out.trans (hal.mono HB2.out.size))
 have HRD3 := Lib.hid (HRD.out.step hal)
 have hrg3 : v3.rangeAt gs (i * 10) [.int .i64 x.c.who, .int .i64 x.c.rev, .int .i64 x.c.seq, .string x.c.text, .bool x.c.fly, .slice a1 a2 a3, .bool x.c.wait, .slice b1 b2 b3] := by
  obtain ⟨a9, e9_, _, at9⟩ := HM3.out.at_ HX.out
  rw [HA.out] at e9_
  have e9_ := Option.some.inj e9_
  subst e9_
  exact client_rng at9
 have HRG3 := Lib.hid hrg3
 rw [hz] at kz ⊢
 have KZ3 := Lib.hid kz
 clear HM2 HB2 HRD HRG HRL hrg3 hv3 hz kz hal d0 d1 d2 hbl lg
 have lg := HM3.out.kg.lt
 go_upto_region 7 with (first | (refine wpList_load_mid rfl _ (.tmp 60) rfl gs (i * 10) rfl [.int .i64 x.c.who, .int .i64 x.c.rev, .int .i64 x.c.seq, .string x.c.text, .bool x.c.fly, .slice a1 a2 a3, .bool x.c.wait, .slice b1 b2 b3] _ HRG3.out Try.underlying92 rfl client_info ?_) | (refine wpList_store_blk rfl _ (.tmp 9) (.tmp 61) rfl v3.heap.size #[.int .i64 x.c.who, .int .i64 x.c.rev, .int .i64 x.c.seq, .string x.c.text, .bool x.c.fly, .slice a1 a2 a3, .bool x.c.wait, .slice b1 b2 b3] rfl rfl _ _ (Blk.new v3 _ _) client_info rfl (by simp [Value.oneCell']) ?_))
 have ky := (Blk.new v3 92 #[.int .i64 0, .int .i64 0, .int .i64 0, .string ⟨#[]⟩, .bool false, .slice none 0 0, .bool false, .slice none 0 0]).row #[.int .i64 x.c.who, .int .i64 x.c.rev, .int .i64 x.c.seq, .string x.c.text, .bool x.c.fly, .slice a1 a2 a3, .bool x.c.wait, .slice b1 b2 b3]
 have hal := below_setRow ((Below.refl v3.heap.size v3).alloc (Nat.le_refl _) (.cells #[.int .i64 0, .int .i64 0, .int .i64 0, .string ⟨#[]⟩, .bool false, .slice none 0 0, .bool false, .slice none 0 0] 92)) v3.heap.size #[.int .i64 x.c.who, .int .i64 x.c.rev, .int .i64 x.c.seq, .string x.c.text, .bool x.c.fly, .slice a1 a2 a3, .bool x.c.wait, .slice b1 b2 b3] (Nat.le_refl _)
 obtain ⟨v4, hv4⟩ : ∃ v4, (v3.alloc (.cells #[.int .i64 0, .int .i64 0, .int .i64 0, .string ⟨#[]⟩, .bool false, .slice none 0 0, .bool false, .slice none 0 0] 92)).setRow v3.heap.size #[.int .i64 x.c.who, .int .i64 x.c.rev, .int .i64 x.c.seq, .string x.c.text, .bool x.c.fly, .slice a1 a2 a3, .bool x.c.wait, .slice b1 b2 b3] = v4 := ⟨_, rfl⟩
 rw [hv4] at ky hal ⊢
 obtain ⟨y, hy⟩ : ∃ y, v3.heap.size = y := ⟨_, rfl⟩
 have HM4 := Lib.hid (HM3.out.below hal)
 have HB4 := Lib.hid (HB3.out.trans (hal.mono HB3.out.size))
 have HRD4 := Lib.hid (HRD3.out.step hal)
 have KZ := Lib.hid (KZ3.out.below hal KZ3.out.lt)
 rw [hy] at ky ⊢
 have KY := Lib.hid ky
 clear HM3 HB3 HRD3 KZ3 HRG3 hv4 hy ky hal lg
 have HIN := Lib.hid (HIN0.out v4 A1 n1 c1 HM4.out HRD4.out)
 refine wp_region_held (S := fun w' => Blk w' y 92 #[.int .i64 x.c.who, .int .i64 x.c.rev, .int .i64 x.c.seq, .string x.c.text, .bool x.c.fly, .slice a1 a2 a3, .bool x.c.wait, .slice b1 b2 b3] ∧ w'.cell? ⟨gs, i * 10 + 9, none⟩ = some (.int .i64 x.told) ∧ w'.cell? ⟨z, 0, none⟩ = some (.int .i64 ra) ∧ w'.cell? ⟨z, 1, none⟩ = some (.int .i64 rb) ∧ w'.cell? ⟨z, 2, none⟩ = some (.slice A1 n1 c1)) (by kernel_rfl) ?_
 have hS : Blk v4.drew y 92 #[.int .i64 x.c.who, .int .i64 x.c.rev, .int .i64 x.c.seq, .string x.c.text, .bool x.c.fly, .slice a1 a2 a3, .bool x.c.wait, .slice b1 b2 b3] ∧ v4.drew.cell? ⟨gs, i * 10 + 9, none⟩ = some (.int .i64 x.told) ∧ v4.drew.cell? ⟨z, 0, none⟩ = some (.int .i64 ra) ∧ v4.drew.cell? ⟨z, 1, none⟩ = some (.int .i64 rb) ∧ v4.drew.cell? ⟨z, 2, none⟩ = some (.slice A1 n1 c1) := ⟨KY.out.drew, (HM4.out.kg.drew.cell _).trans HR9.out, KZ.out.drew.cell 0, KZ.out.drew.cell 1, KZ.out.drew.cell 2⟩
 change wpAnyH _ _ _ _ _ _ _ _ v4.drew
 refine tkZ 63 0 rfl rfl (.pointer (some ⟨gs, i * 10, none⟩)) (.inl ⟨rfl, fun w' h' => by go_simp⟩) hS ?_
 simp only [Act.put, zA, zB, zC]
 refine tkZ 64 1 rfl rfl (.agg #[.int .i64 x.c.who, .int .i64 x.c.rev, .int .i64 x.c.seq, .string x.c.text, .bool x.c.fly, .slice a1 a2 a3, .bool x.c.wait, .slice b1 b2 b3]) (.inl ⟨rfl, fun w' h' => exec_load_blk _ _ rfl y rfl _ (client_row h'.1 rfl)⟩) hS ?_
 simp only [Act.put, zA, zB, zC]
 refine tkZ 65 2 rfl rfl (.pointer (some ⟨gs, i * 10, none⟩)) (.inl ⟨rfl, fun w' h' => by go_simp⟩) hS ?_
 simp only [Act.put, zA, zB, zC]
 refine tkZ 66 3 rfl rfl (.pointer (some ⟨gs, i * 10, none⟩)) (.inl ⟨rfl, fun w' h' => by go_simp⟩) hS ?_
 simp only [Act.put, zA, zB, zC]
 refine tkZ 67 4 rfl rfl (.pointer (some ⟨gs, i * 10 + 9, none⟩)) (.inl ⟨rfl, fun w' h' => by go_simp⟩) hS ?_
 simp only [Act.put, zA, zB, zC]
 refine tkZ 68 5 rfl rfl (.int .i64 x.told) (.inl ⟨rfl, fun w' h' => by obtain ⟨-, h2, h3, h4, h5⟩ := h'; go_simp⟩) hS ?_
 simp only [Act.put, zA, zB, zC]
 refine tkZ 69 6 rfl rfl (.pointer (some ⟨z, 0, none⟩)) (.inl ⟨rfl, fun w' h' => by go_simp⟩) hS ?_
 simp only [Act.put, zA, zB, zC]
 refine tkZ 70 7 rfl rfl (.int .i64 ra) (.inl ⟨rfl, fun w' h' => by obtain ⟨-, h2, h3, h4, h5⟩ := h'; go_simp⟩) hS ?_
 simp only [Act.put, zA, zB, zC]
 refine tkZ 71 8 rfl rfl (.pointer (some ⟨z, 1, none⟩)) (.inl ⟨rfl, fun w' h' => by go_simp⟩) hS ?_
 simp only [Act.put, zA, zB, zC]
 refine tkZ 72 9 rfl rfl (.int .i64 rb) (.inl ⟨rfl, fun w' h' => by obtain ⟨-, h2, h3, h4, h5⟩ := h'; go_simp⟩) hS ?_
 simp only [Act.put, zA, zB, zC]
 refine tkZ 73 10 rfl rfl (.pointer (some ⟨z, 2, none⟩)) (.inl ⟨rfl, fun w' h' => by go_simp⟩) hS ?_
 simp only [Act.put, zA, zB, zC]
 refine tkZ 74 11 rfl rfl (.slice A1 n1 c1) (.inl ⟨rfl, fun w' h' => by obtain ⟨-, h2, h3, h4, h5⟩ := h'; go_simp⟩) hS ?_
 simp only [Act.put, zA, zB, zC]
 refine tkZ 75 12 rfl rfl (.agg #[.int .i64 x.told, .int .i64 ra, .int .i64 rb, .slice A1 n1 c1]) (.inl ⟨rfl, fun w' h' => by go_simp⟩) hS ?_
 simp only [Act.put, zA, zB, zC]
 have hcc_ := HIN.out
 refine wpAnyH_all (rs := [13]) (by kernel_rfl) (List.cons_ne_nil _ _) (fun i13 hi13 => ?_)
 obtain rfl := List.mem_singleton.1 hi13
 refine wpOp_enterE 76 rfl rfl rfl 74 #[.agg #[.int .i64 x.c.who, .int .i64 x.c.rev, .int .i64 x.c.seq, .string x.c.text, .bool x.c.fly, .slice a1 a2 a3, .bool x.c.wait, .slice b1 b2 b3], .agg #[.int .i64 x.told, .int .i64 ra, .int .i64 rb, .slice A1 n1 c1]] (by go_simp) (fun v w' => ∃ s1 h1 : Sl, v = .tuple #[clv C2 s1 h1, .int .i64 0] ∧ OwnSl w' v4.drew.heap.size s1 C2.sent ∧ OwnSl w' v4.drew.heap.size h1 C2.held ∧ Below v4.drew.heap.size v4.drew w') hcc_ ?_
 intro vv5 v5 hv5
 clear hcc_
 obtain ⟨⟨s1, s2, s3⟩, ⟨t1, t2, t3⟩, rfl, hos, hot, hbb⟩ := hv5
 unfold clv clc
 have hb5 : Below v4.heap.size v4 v5 := (Below.drew (Below.refl _ _)).trans hbb
 have HM5 := Lib.hid (HM4.out.below hb5)
 have KY5 := Lib.hid (KY.out.below hb5 KY.out.lt)
 have KZ5 := Lib.hid (KZ.out.below hb5 KZ.out.lt)
 have hSv5 : Blk v5 y 92 #[.int .i64 x.c.who, .int .i64 x.c.rev, .int .i64 x.c.seq, .string x.c.text, .bool x.c.fly, .slice a1 a2 a3, .bool x.c.wait, .slice b1 b2 b3] ∧ v5.cell? ⟨gs, i * 10 + 9, none⟩ = some (.int .i64 x.told) ∧ v5.cell? ⟨z, 0, none⟩ = some (.int .i64 ra) ∧ v5.cell? ⟨z, 1, none⟩ = some (.int .i64 rb) ∧ v5.cell? ⟨z, 2, none⟩ = some (.slice A1 n1 c1) := ⟨KY5.out, (HM5.out.kg.cell _).trans HR9.out, KZ5.out.cell 0, KZ5.out.cell 1, KZ5.out.cell 2⟩
 have HB5 := Lib.hid (HB4.out.trans (hb5.mono HB4.out.size))
 have hlt4 := HM4.out.flt
 have hsz4 : v4.drew.heap.size = v4.heap.size := rfl
 have hd1 : DtW v5 F (s1, s2, s3) C2.sent := ⟨own_base hos (Nat.zero_le _), fun k hk hf => by have h1 := own_ge hos k hk; have h2 := hlt4 k hf; omega⟩
 have hd2 : DtW v5 F (t1, t2, t3) C2.held := ⟨own_base hot (Nat.zero_le _), fun k hk hf => by have h1 := own_ge hot k hk; have h2 := hlt4 k hf; omega⟩
 have HD1 := Lib.hid hd1
 have HD2 := Lib.hid hd2
 clear hb5 hbb hos hot hd1 hd2 hlt4 hsz4
 simp only [Act.put, zA, zB, zC]
 refine ⟨hSv5, ?_⟩
 refine tkZ 62 14 rfl rfl (.tuple #[.agg #[.int .i64 C2.who, .int .i64 C2.rev, .int .i64 C2.seq, .string C2.text, .bool C2.fly, .slice s1 s2 s3, .bool C2.wait, .slice t1 t2 t3], .int .i64 0]) (.inl ⟨rfl, fun w' h' => by go_simp⟩) hSv5 ?_
 simp only [Act.put, zA, zB, zC]
 refine tkZ 77 15 rfl rfl (.agg #[.int .i64 C2.who, .int .i64 C2.rev, .int .i64 C2.seq, .string C2.text, .bool C2.fly, .slice s1 s2 s3, .bool C2.wait, .slice t1 t2 t3]) (.inl ⟨rfl, fun w' h' => by go_simp⟩) hSv5 ?_
 simp only [Act.put, zA, zB, zC]
 refine tkZ 78 16 rfl rfl (.int .i64 0) (.inl ⟨rfl, fun w' h' => by go_simp⟩) hSv5 ?_
 simp only [Act.put, zA, zB, zC]
 refine tkZ 79 17 rfl rfl (.pointer (some ⟨gs, i * 10, none⟩)) (.inl ⟨rfl, fun w' h' => by go_simp⟩) hSv5 ?_
 simp only [Act.put, zA, zB, zC]
 refine tkZ 80 18 rfl rfl (.pointer (some ⟨gs, i * 10, none⟩)) (.inl ⟨rfl, fun w' h' => by go_simp⟩) hSv5 ?_
 simp only [Act.put, zA, zB, zC]
 refine wpAnyH_all (rs := [19]) (by kernel_rfl) (List.cons_ne_nil _ _) (fun ie hie => ?_)
 obtain rfl := List.mem_singleton.1 hie
 refine wpOp_at rfl rfl ?_
 have hth := HM5.out.kg.there (o := i * 10) (n := 8) (by rw [List.size_toArray, List.length_append, rowW_len X E HM5.out.le, HNN.out]; omega)
 refine wp_store_mid 92 (.tmp 80) (.tmp 77) rfl gs (i * 10) #[.int .i64 C2.who, .int .i64 C2.rev, .int .i64 C2.seq, .string C2.text, .bool C2.fly, .slice s1 s2 s3, .bool C2.wait, .slice t1 t2 t3] rfl rfl hth client_info (by simp [Value.oneCell']) ?_
 simp only [Act.put, zA, zB, zC]
 have kg6 := Blk.setMany (w := v5) [.int .i64 C2.who, .int .i64 C2.rev, .int .i64 C2.seq, .string C2.text, .bool C2.fly, .slice s1 s2 s3, .bool C2.wait, .slice t1 t2 t3] (i * 10) v5 _ HM5.out.kg
 rw [show setL (rowW X E ++ sp).toArray (i * 10) [.int .i64 C2.who, .int .i64 C2.rev, .int .i64 C2.seq, .string C2.text, .bool C2.fly, .slice s1 s2 s3, .bool C2.wait, .slice t1 t2 t3] = (rowW (X.set i { x with c := C2 }) (E.set i ((s1, s2, s3), (t1, t2, t3), (u1, u2, u3))) ++ sp).toArray from rowW_client HX.out HA.out HM5.out.le C2 (s1, s2, s3) (t1, t2, t3)] at kg6
 have ho6 := Only.setMany gs [.int .i64 C2.who, .int .i64 C2.rev, .int .i64 C2.seq, .string C2.text, .bool C2.fly, .slice s1 s2 s3, .bool C2.wait, .slice t1 t2 t3] (i * 10) v5
 change _ ∧ _
 obtain ⟨W6, hW6⟩ : ∃ W6, v5.setCells gs (i * 10) [.int .i64 C2.who, .int .i64 C2.rev, .int .i64 C2.seq, .string C2.text, .bool C2.fly, .slice s1 s2 s3, .bool C2.wait, .slice t1 t2 t3] = W6 := ⟨_, rfl⟩
 have hW6' : v5.setCells gs (i * 10) (#[.int .i64 C2.who, .int .i64 C2.rev, .int .i64 C2.seq, .string C2.text, .bool C2.fly, .slice s1 s2 s3, .bool C2.wait, .slice t1 t2 t3]).toList = W6 := hW6
 rw [hW6] at kg6 ho6
 rw [hW6']
 have hss := HM5.out.ss i x _ HX.out HA.out
 have hS9 : ∀ k, k = gs → F k ∨ ∃ cs t, Blk v5 k t cs ∧ t ≠ 88 := fun k hk => .inr ⟨_, _, hk ▸ HM5.out.kg, by decide⟩
 have hus : UpW W6 F (u1, u2, u3) x.up := hss.u.only ho6 hS9 (fun k hk e => by
  obtain ⟨_, cur, hc⟩ := upB_blk hss.u hk
  exact Blk.ne_ hc HM5.out.kg (by decide) e)
 have hM6 : WdM W6 F q sq gs cap (E.set i ((s1, s2, s3), (t1, t2, t3), (u1, u2, u3))) sp s (X.set i { x with c := C2 }) put edits :=
  HM5.out.seat (x := { x with c := C2 }) (a := ((s1, s2, s3), (t1, t2, t3), (u1, u2, u3))) HX.out HA.out (ho6.mono fun k _ hk => .inl hk) kg6 ⟨HD1.out.only ho6 hS9, HD2.out.only ho6 hS9, hus⟩ (fun g hg => .inl hg)
 have ky6 := KY5.out.only ho6 (Blk.ne_ KY5.out HM5.out.kg (by decide))
 have kz6 := KZ5.out.only ho6 (Blk.ne_ KZ5.out HM5.out.kg (by decide))
 have hXi : (X.set i { x with c := C2 })[i]? = some { x with c := C2 } := List.getElem?_set_self (List.getElem?_eq_some_iff.1 HX.out).1
 have hAi : (E.set i ((s1, s2, s3), (t1, t2, t3), (u1, u2, u3)))[i]? = some ((s1, s2, s3), (t1, t2, t3), (u1, u2, u3)) := List.getElem?_set_self (by rw [HM5.out.le]; exact (List.getElem?_eq_some_iff.1 HX.out).1)
 obtain ⟨a6, e6, _, at6⟩ := hM6.at_ hXi
 rw [hAi] at e6
 have e6 := Option.some.inj e6
 subst e6
 have e96 : W6.cell? ⟨gs, i * 10 + 9, none⟩ = some (.int .i64 x.told) := at6 9 (by decide)
 have hS6 : Blk W6 y 92 #[.int .i64 x.c.who, .int .i64 x.c.rev, .int .i64 x.c.seq, .string x.c.text, .bool x.c.fly, .slice a1 a2 a3, .bool x.c.wait, .slice b1 b2 b3] ∧ W6.cell? ⟨gs, i * 10 + 9, none⟩ = some (.int .i64 x.told) ∧ W6.cell? ⟨z, 0, none⟩ = some (.int .i64 ra) ∧ W6.cell? ⟨z, 1, none⟩ = some (.int .i64 rb) ∧ W6.cell? ⟨z, 2, none⟩ = some (.slice A1 n1 c1) := ⟨ky6, e96, kz6.cell 0, kz6.cell 1, kz6.cell 2⟩
 refine ⟨hS6, ?_⟩
 refine wpAnyH_done (by kernel_rfl) ?_ _
 have HM6 := Lib.hid hM6
 have HO6 := Lib.hid ((Only.of_below (S := P) HB5.out).trans (ho6.mono fun k _ hk => by rw [hk]; exact HPg.out))
 have KY6 := Lib.hid ky6
 have KZ6 := Lib.hid kz6
 have HXI := Lib.hid hXi
 have HAI := Lib.hid hAi
 have hie8 : True := trivial
 clear hS hS6 hSv5 kg6 ho6 hW6 hW6' hss hS9 hus hM6 ky6 kz6 hXi hAi HD1 HD2 HM5 KY5 KZ5 HB5 HM4 KZ KY HB4 HRD4 HIN HIN0 hth hie8
 have f96 := HM6.out.kg.frozen (i * 10 + 9)
 have lg6 := HM6.out.kg.lt
 have hwt : IntKind.i64.wrap ((x.told : Int) + 1) = (x.told : Int) + 1 := IntWalk.i64_in _ (by omega)
 clear at6
 go_upto_region 9 with (fail)
 have kg7 := HM6.out.kg.set_ (i * 10 + 9) (.int .i64 ((x.told : Int) + 1))
 rw [rowW_cell (x := { x with c := C2 }) (x' := ⟨C2, x.up, x.told + 1⟩) (a' := ((s1, s2, s3), (t1, t2, t3), (u1, u2, u3))) HXI.out HAI.out HM6.out.le 9 _ (by decide) (by simp [stc]), List.set_set, List.set_set] at kg7
 have ho7 := Only.setSelf W6 gs (i * 10 + 9) (.int .i64 ((x.told : Int) + 1))
 obtain ⟨W7, hW7⟩ : ∃ W7, W6.setCell ⟨gs, i * 10 + 9, none⟩ (.int .i64 ((x.told : Int) + 1)) = W7 := ⟨_, rfl⟩
 rw [hW7] at kg7 ho7 ⊢
 have hss := HM6.out.ss i _ _ HXI.out HAI.out
 have hS9 : ∀ k, k = gs → F k ∨ ∃ cs t, Blk W6 k t cs ∧ t ≠ 88 := fun k hk => .inr ⟨_, _, hk ▸ HM6.out.kg, by decide⟩
 have hM7 : WdM W7 F q sq gs cap (E.set i ((s1, s2, s3), (t1, t2, t3), (u1, u2, u3))) sp s (X.set i ⟨C2, x.up, x.told + 1⟩) put edits := by
  have hh := HM6.out.seat (x := ⟨C2, x.up, x.told + 1⟩) (a := ((s1, s2, s3), (t1, t2, t3), (u1, u2, u3))) HXI.out HAI.out (ho7.mono fun k _ hk => .inl hk) (by rw [List.set_set, List.set_set]; exact kg7) ⟨hss.s.only ho7 hS9, hss.h.only ho7 hS9, hss.u.only ho7 hS9 (fun k hk e => by
   obtain ⟨_, cur, hc⟩ := upB_blk hss.u hk
   exact Blk.ne_ hc HM6.out.kg (by decide) e)⟩ (fun g hg => .inl hg)
  rw [List.set_set, List.set_set] at hh
  exact hh
 have hO7 : Only w W7 P := HO6.out.trans (ho7.mono fun k _ hk => by rw [hk]; exact HPg.out)
 have hP7 : WdS W7 (grow P w W7) F sq q s (X.set i ⟨C2, x.up, x.told + 1⟩) put edits := by
  refine ⟨gs, cap, _, sp, hM7, .inl HPq.out, .inl HPg.out, ?_⟩
  intro j b hb z hz
  by_cases hj : j = i
  · subst hj
    rw [List.getElem?_set_self (by have := HM6.out.le; rw [List.length_set, List.length_set] at this; rw [this]; exact (List.getElem?_eq_some_iff.1 HX.out).1)] at hb
    have hb := Option.some.inj hb
    subst hb
    exact .inl (HPu.out _ _ HA.out z hz)
  · rw [List.getElem?_set_ne (Ne.symm hj)] at hb
    exact .inl (HPu.out j b hb z hz)
 have ky7 := KY6.out.only ho7 (Blk.ne_ KY6.out HM6.out.kg (by decide))
 have kz7 := KZ6.out.only ho7 (Blk.ne_ KZ6.out HM6.out.kg (by decide))
 have hX7 : (X.set i ⟨C2, x.up, x.told + 1⟩)[i]? = some ⟨C2, x.up, x.told + 1⟩ := List.getElem?_set_self (List.getElem?_eq_some_iff.1 HX.out).1
 obtain ⟨a7, e7_, _, at7⟩ := hM7.at_ hX7
 have e47 : W7.cell? ⟨gs, i * 10 + 4, none⟩ = some (.bool C2.fly) := at7 4 (by decide)
 have z0 : W7.cell? ⟨z, 0, none⟩ = some (.int .i64 ra) := kz7.cell 0
 have z1 : W7.cell? ⟨z, 1, none⟩ = some (.int .i64 rb) := kz7.cell 1
 have y4 : W7.cell? ⟨y, 4, none⟩ = some (.bool x.c.fly) := ky7.cell 4
 have y2 : W7.cell? ⟨y, 2, none⟩ = some (.int .i64 x.c.seq) := ky7.cell 2
 have lz := kz7.lt
 have ly := ky7.lt
 have lg7 := hM7.kg.lt
 have HO7 := Lib.hid hO7
 have HP7 := Lib.hid hP7
 have HX7 := Lib.hid hX7
 clear f96 lg6 e96 hwt kg7 ho7 hW7 hss hS9 hM7 hO7 hP7 ky7 kz7 hX7 at7 e7_ HM6 HO6 KY6 KZ6 HXI HAI
 have hqe : (ra == (i : Int)) = false := by
  have h9 := HH1.out
  rw [HWH.out] at h9
  simpa using h9
 obtain ⟨FL, hFL⟩ : ∃ b, x.c.fly = b := ⟨_, rfl⟩
 rw [hFL] at y4
 clear hFL
 cases FL with
 | false =>
   go_wp2_with fail
   go_ret
   exact ⟨rfl, HP7.out, HO7.out⟩
 | true =>
   go_wp2_with fail
   go_ret
   exact ⟨rfl, HP7.out, HO7.out⟩
end Go.Proofs.Ytokngfinnieccaa
