/- A world, its seats' blocks and its archive's told apart: Up. Contract of world.Down. -/
import Derived.Test.YtokngfinnieccaaO24
import Derived.Test.YtokngfinnieccaaO20
namespace Go.Proofs.Ytokngfinnieccaa
open Go.ChangeShapes Go.WideShapes Go.RowKit
set_option linter.unusedVariables false
set_option linter.unusedSimpArgs false
set_option maxRecDepth 100000
set_option maxHeartbeats 4000000
theorem wup_S (w : World) (P F0 F : Nat → Prop) (sq q : Nat) (s : Sh) (X : List St) (put edits : Int) (h : WdS w P F sq q s X put edits) (h0 : ShG w F0 sq s none 1 0 tz) (hF : ∀ k, F0 k → F k) (i : Nat) (x : St) (hx : X[i]? = some x) (mb mw ms : Int) (md : List Pt) (hup : x.up = [(mb, mw, ms, md)]) (htx : ∀ p ∈ md, p.2.2.size ≤ 140737488351232) :
 Calls Try.prog 26 #[.pointer (some ⟨q, 0, none⟩), .int .i64 i] w fun e w' => e = .returned (.bool true) ∧ WdS w' P (grow F w w') sq q (subS s none mb mw ms md) (X.set i { x with up := [] }) put edits ∧ ShG w' (grow F0 w w') sq (subS s none mb mw ms md) none 1 0 tz ∧ Only w w' (fun k => P k ∨ F0 k) := by
 obtain ⟨gs, cap, E, sp, h, hPq, hPg, hPu⟩ := h
 obtain ⟨N, hN⟩ : ∃ N, X.length = N := ⟨_, rfl⟩
 have hkq := h.kq
 have hc1 := h.c1
 have hc2 := h.c2
 rw [hN] at hkq hc1
 have hcp : (N : Int) ≤ (cap : Int) := by omega
 have hcm : (cap : Int) ≤ 9223372036854775807 := by simp only [maxLen] at hc2; omega
 have hN0 : (0 : Int) ≤ (N : Int) := by omega
 have q0 : w.cell? ⟨q, 0, none⟩ = some (.pointer (some ⟨sq, 0, none⟩)) := hkq.cell 0
 have q1 : w.cell? ⟨q, 1, none⟩ = some (.slice (some ⟨gs, 0, none⟩) N cap) := hkq.cell 1
 have lq := hkq.lt
 have lg := h.kg.lt
 have hiN : i < N := by rw [← hN]; exact (List.getElem?_eq_some_iff.1 hx).1
 have hi0 : (0 : Int) ≤ (i : Int) := by omega
 have hiN' : (i : Int) < (N : Int) := by omega
 obtain ⟨⟨⟨a1, a2, a3⟩, ⟨b1, b2, b3⟩, ⟨u1, u2, u3⟩⟩, ha, hs, hat⟩ := h.at_ hx
 obtain ⟨g, o, hu1, hu2, hu3, hnf, hrow⟩ : ∃ g o, u1 = some ⟨g, o, none⟩ ∧ u2 = 1 ∧ 1 ≤ u3 ∧ ¬ F g ∧ ∃ cur d, Blk w g 82 cur ∧ o + u3 * 4 ≤ cur.size ∧ cur[o]? = some (.int .i64 mb) ∧ cur[o + 1]? = some (.int .i64 mw) ∧ cur[o + 2]? = some (.int .i64 ms) ∧ cur[o + 3]? = some (.slice d.1 d.2.1 d.2.2) ∧ DtW w F d md := by
  rcases hs.u.2 with ⟨e1, _⟩ | ⟨m, d_, g_, o_, cur_, e1, e2, e3, e4, e5, e6, e7, e8, e9, e10, e11, e12⟩
  · rw [hup] at e1; cases e1
  · rw [hup] at e1
    have e1 := (List.cons.inj e1).1
    subst e1
    exact ⟨g_, o_, e2, e3, e4, e5, cur_, d_, e6, e7, e8, e9, e10, e11, e12⟩
 obtain ⟨cur, ⟨d1, d2, d3⟩, kr, hcs, r0, r1, r2, r3, hdd⟩ := hrow
 subst hu1 hu2
 have hu3m : u3 ≤ maxLen := hs.u.1
 have e8 : w.cell? ⟨gs, i * 10 + 8, none⟩ = some (.slice (some ⟨g, o, none⟩) 1 u3) := hat 8 (by decide)
 have row8 : (rowW X E ++ sp).toArray[i * 10 + 8]? = some (.slice (some ⟨g, o, none⟩) 1 u3) := (h.kg.cell _).symm.trans e8
 have HR8 := Lib.hid row8
 have KR := Lib.hid kr
 have HCS := Lib.hid hcs
 have HC0 := Lib.hid r0
 have HC1 := Lib.hid r1
 have HC2 := Lib.hid r2
 have HC3 := Lib.hid r3
 have HNF := Lib.hid hnf
 have HU3M := Lib.hid hu3m
 have c0 : w.cell? ⟨g, o, none⟩ = some (.int .i64 mb) := (kr.cell _).trans r0
 have c1 : w.cell? ⟨g, o + 1, none⟩ = some (.int .i64 mw) := (kr.cell _).trans r1
 have c2 : w.cell? ⟨g, o + 2, none⟩ = some (.int .i64 ms) := (kr.cell _).trans r2
 have c3 : w.cell? ⟨g, o + 3, none⟩ = some (.slice d1 d2 d3) := (kr.cell _).trans r3
 have lr := kr.lt
 have hu30 : (1 : Int) ≤ (u3 : Int) := by omega
 have hsub := submit_G sq s none F0 1 0 tz mb mw ms md d1 d2 d3 w.drew ⟨h0.mem.below (Below.drew (Below.refl _ _)), h0.inv⟩ (rdS_ hdd.1 htx)
 obtain ⟨NN, hNN_⟩ : ∃ NN, subN s mb mw ms md = NN := ⟨_, rfl⟩
 obtain ⟨EE, hEE_⟩ : ∃ EE, subE s mb mw ms md = EE := ⟨_, rfl⟩
 obtain ⟨s1, hs1_⟩ : ∃ s1, subS s none mb mw ms md = s1 := ⟨_, rfl⟩
 rw [hNN_, hEE_, hs1_] at hsub
 rw [hs1_]
 have HSUB := Lib.hid hsub
 have HM := Lib.hid h
 have HX := Lib.hid hx
 have HA := Lib.hid ha
 have HS := Lib.hid hs
 have HF := Lib.hid hF
 have HPq := Lib.hid hPq
 have HPg := Lib.hid hPg
 have HPu := Lib.hid hPu
 have HNN := Lib.hid hN
 clear h h0 hx ha hs hat hkq hc1 hc2 hN hF hPq hPg hPu
 clear hsub hup htx kr hcs r0 r1 r2 r3 hnf hdd hu3m row8 hNN_ hEE_ hs1_
 go_enter Try.func26, Try.ntmps26
 go_upto_region 3 with (fail)
 refine wp_region_held (S := fun w' => w'.cell? ⟨q, 0, none⟩ = some (.pointer (some ⟨sq, 0, none⟩)) ∧ w'.cell? ⟨q, 1, none⟩ = some (.slice (some ⟨gs, 0, none⟩) N cap) ∧ w'.cell? ⟨gs, i * 10 + 8, none⟩ = some (.slice (some ⟨g, o, none⟩) 1 u3) ∧ w'.cell? ⟨g, o, none⟩ = some (.int .i64 mb) ∧ w'.cell? ⟨g, o + 1, none⟩ = some (.int .i64 mw) ∧ w'.cell? ⟨g, o + 2, none⟩ = some (.int .i64 ms) ∧ w'.cell? ⟨g, o + 3, none⟩ = some (.slice d1 d2 d3)) (by kernel_rfl) ?_
 have hS : w.drew.cell? ⟨q, 0, none⟩ = some (.pointer (some ⟨sq, 0, none⟩)) ∧ w.drew.cell? ⟨q, 1, none⟩ = some (.slice (some ⟨gs, 0, none⟩) N cap) ∧ w.drew.cell? ⟨gs, i * 10 + 8, none⟩ = some (.slice (some ⟨g, o, none⟩) 1 u3) ∧ w.drew.cell? ⟨g, o, none⟩ = some (.int .i64 mb) ∧ w.drew.cell? ⟨g, o + 1, none⟩ = some (.int .i64 mw) ∧ w.drew.cell? ⟨g, o + 2, none⟩ = some (.int .i64 ms) ∧ w.drew.cell? ⟨g, o + 3, none⟩ = some (.slice d1 d2 d3) := ⟨q0, q1, e8, c0, c1, c2, c3⟩
 change wpAnyH _ _ _ _ _ _ _ _ w.drew
 refine tkZ 28 0 rfl rfl (.pointer (some ⟨q, 0, none⟩)) (.inl ⟨rfl, fun w' h' => by go_simp⟩) hS ?_
 simp only [Act.put, zA, zB, zC]
 refine tkZ 29 1 rfl rfl (.pointer (some ⟨q, 0, none⟩)) (.inl ⟨rfl, fun w' h' => by go_simp⟩) hS ?_
 simp only [Act.put, zA, zB, zC]
 refine tkZ 30 2 rfl rfl (.pointer (some ⟨q, 0, none⟩)) (.inl ⟨rfl, fun w' h' => by go_simp⟩) hS ?_
 simp only [Act.put, zA, zB, zC]
 refine tkZ 31 3 rfl rfl (.pointer (some ⟨sq, 0, none⟩)) (.inl ⟨rfl, fun w' h' => by obtain ⟨h1, h2, h3, h4, h5, h6, h7⟩ := h'; go_simp⟩) hS ?_
 simp only [Act.put, zA, zB, zC]
 refine tkZ 32 4 rfl rfl (.pointer (some ⟨q, 0, none⟩)) (.inl ⟨rfl, fun w' h' => by go_simp⟩) hS ?_
 simp only [Act.put, zA, zB, zC]
 refine tkZ 33 5 rfl rfl (.pointer (some ⟨q, 0, none⟩)) (.inl ⟨rfl, fun w' h' => by go_simp⟩) hS ?_
 simp only [Act.put, zA, zB, zC]
 refine tkZ 34 6 rfl rfl (.pointer (some ⟨q, 1, none⟩)) (.inl ⟨rfl, fun w' h' => by go_simp⟩) hS ?_
 simp only [Act.put, zA, zB, zC]
 refine tkZ 35 7 rfl rfl (.slice (some ⟨gs, 0, none⟩) N cap) (.inl ⟨rfl, fun w' h' => by obtain ⟨h1, h2, h3, h4, h5, h6, h7⟩ := h'; go_simp⟩) hS ?_
 simp only [Act.put, zA, zB, zC]
 refine tkZ 36 8 rfl rfl (.int .i64 i) (.inl ⟨rfl, fun w' h' => by go_simp⟩) hS ?_
 simp only [Act.put, zA, zB, zC]
 refine tkZ 37 9 rfl rfl (.pointer (some ⟨gs, i * 10, none⟩)) (.inl ⟨rfl, fun w' h' => by go_simp⟩) hS ?_
 simp only [Act.put, zA, zB, zC]
 refine tkZ 38 10 rfl rfl (.pointer (some ⟨gs, i * 10 + 8, none⟩)) (.inl ⟨rfl, fun w' h' => by go_simp⟩) hS ?_
 simp only [Act.put, zA, zB, zC]
 refine tkZ 39 11 rfl rfl (.slice (some ⟨g, o, none⟩) 1 u3) (.inl ⟨rfl, fun w' h' => by obtain ⟨h1, h2, h3, h4, h5, h6, h7⟩ := h'; go_simp⟩) hS ?_
 simp only [Act.put, zA, zB, zC]
 refine tkZ 40 12 rfl rfl (.pointer (some ⟨g, o, none⟩)) (.inl ⟨rfl, fun w' h' => by go_simp⟩) hS ?_
 simp only [Act.put, zA, zB, zC]
 refine tkZ 41 13 rfl rfl (.agg #[.int .i64 mb, .int .i64 mw, .int .i64 ms, .slice d1 d2 d3]) (.inl ⟨rfl, fun w' h' => by obtain ⟨h1, h2, h3, h4, h5, h6, h7⟩ := h'; go_simp⟩) hS ?_
 simp only [Act.put, zA, zB, zC]
 have hcc_ := HSUB.out
 refine wpAnyH_all (rs := [14]) (by kernel_rfl) (List.cons_ne_nil _ _) (fun i14 hi14 => ?_)
 obtain rfl := List.mem_singleton.1 hi14
 refine wpOp_enter 42 rfl rfl rfl 51 #[.pointer (some ⟨sq, 0, none⟩), .agg #[.int .i64 mb, .int .i64 mw, .int .i64 ms, .slice d1 d2 d3]] (by go_simp) (.tuple #[.int .i64 NN, .int .i64 EE]) (fun w' => ShG w' (grow F0 w.drew w') sq s1 none 1 0 tz ∧ Only w.drew w' F0) hcc_ ?_
 intro v1 hv1
 simp only [Act.put, zA, zB, zC]
 clear hcc_
 obtain ⟨hm0, ho0⟩ := hv1
 have HM0 := Lib.hid hm0
 have HO0 := Lib.hid ho0
 have ho1 : Only w.drew v1 F := ho0.mono fun k _ hk => HF.out k hk
 have hm1 : ShG v1 (grow F w.drew v1) sq s1 none 1 0 tz := ⟨hm0.mem.mono (fun k hk => by
  rcases hk with hk | hk
  · exact .inl (HF.out k hk)
  · exact .inr hk) (fun k hk => by
  rcases hk with hk | hk
  · have h1 := HM.out.flt k hk
    have h2 := ho0.2.2.2.1
    have h3 : w.drew.heap.size = w.heap.size := rfl
    omega
  · exact hk.2), hm0.inv⟩
 have HM1 := Lib.hid ((HM.out.below (Below.drew (Below.refl _ _))).shop ho1 hm1)
 have kr1 := KR.out.drew.only ho1 HNF.out
 have hSv1 : v1.cell? ⟨q, 0, none⟩ = some (.pointer (some ⟨sq, 0, none⟩)) ∧ v1.cell? ⟨q, 1, none⟩ = some (.slice (some ⟨gs, 0, none⟩) N cap) ∧ v1.cell? ⟨gs, i * 10 + 8, none⟩ = some (.slice (some ⟨g, o, none⟩) 1 u3) ∧ v1.cell? ⟨g, o, none⟩ = some (.int .i64 mb) ∧ v1.cell? ⟨g, o + 1, none⟩ = some (.int .i64 mw) ∧ v1.cell? ⟨g, o + 2, none⟩ = some (.int .i64 ms) ∧ v1.cell? ⟨g, o + 3, none⟩ = some (.slice d1 d2 d3) := ⟨HM1.out.kq.cell 0, (HM1.out.kq.cell 1).trans (by rw [HNN.out]; rfl), (HM1.out.kg.cell _).trans HR8.out, (kr1.cell _).trans HC0.out, (kr1.cell _).trans HC1.out, (kr1.cell _).trans HC2.out, (kr1.cell _).trans HC3.out⟩
 have HO1 := Lib.hid ho1
 have KR1 := Lib.hid kr1
 clear hm1 ho1 kr1 hm0 ho0
 refine ⟨hSv1, ?_⟩
 refine wpAnyH_done (by kernel_rfl) ?_ _
 go_upto_region 4 with (fail)
 clear hSv1 hS q0 q1 e8 c0 c1 c2 c3 lr lq lg
 have q1 : v1.drew.cell? ⟨q, 1, none⟩ = some (.slice (some ⟨gs, 0, none⟩) N cap) := (HM1.out.kq.drew.cell 1).trans (by rw [HNN.out]; rfl)
 have e8 : v1.drew.cell? ⟨gs, i * 10 + 8, none⟩ = some (.slice (some ⟨g, o, none⟩) 1 u3) := (HM1.out.kg.drew.cell _).trans HR8.out
 have f8 := HM1.out.kg.drew.frozen (i * 10 + 8)
 have lq : q < v1.drew.heap.size := HM1.out.kq.lt
 have lg : gs < v1.drew.heap.size := HM1.out.kg.lt
 have HOW : Hid (Only w v1 (fun k => P k ∨ F0 k)) := Lib.hid (((Only.drew w).trans HO0.out).mono fun k _ hk => .inr hk)
 clear HO1
 have hend : ∀ (u' : Sl), (∀ z, upB u' = some z → z = g) → UpW v1.drew (grow F w.drew v1) u' [] → WdS (v1.drew.setCell ⟨gs, i * 10 + 8, none⟩ (.slice u'.1 u'.2.1 u'.2.2)) P (grow F w (v1.drew.setCell ⟨gs, i * 10 + 8, none⟩ (.slice u'.1 u'.2.1 u'.2.2))) sq q s1 (X.set i { x with up := [] }) put edits ∧ ShG (v1.drew.setCell ⟨gs, i * 10 + 8, none⟩ (.slice u'.1 u'.2.1 u'.2.2)) (grow F0 w (v1.drew.setCell ⟨gs, i * 10 + 8, none⟩ (.slice u'.1 u'.2.1 u'.2.2))) sq s1 none 1 0 tz ∧ Only w (v1.drew.setCell ⟨gs, i * 10 + 8, none⟩ (.slice u'.1 u'.2.1 u'.2.2)) (fun k => P k ∨ F0 k) := by
  intro u' hub huw
  have hMd := HM1.out.below (Below.drew (Below.refl _ _))
  have hss := hMd.ss i x _ HX.out HA.out
  have ho := Only.setSelf v1.drew gs (i * 10 + 8) (.slice u'.1 u'.2.1 u'.2.2)
  have hS9 : ∀ k, k = gs → grow F w.drew v1 k ∨ ∃ cs t, Blk v1.drew k t cs ∧ t ≠ 88 := fun k hk => .inr ⟨_, _, hk ▸ hMd.kg, by decide⟩
  have hg0 : upB (some ⟨g, o, none⟩, 1, u3) = some g := by unfold upB; rw [if_neg (by simp only; omega)]; rfl
  have kg1 := hMd.kg.set_ (i * 10 + 8) (.slice u'.1 u'.2.1 u'.2.2)
  rw [rowW_cell (x' := { x with up := [] }) (a' := ((a1, a2, a3), (b1, b2, b3), u')) HX.out HA.out hMd.le 8 _ (by decide) rfl] at kg1
  have hM2 := hMd.seat (x := { x with up := [] }) (a := ((a1, a2, a3), (b1, b2, b3), u')) HX.out HA.out (ho.mono fun k _ hk => .inl hk) kg1 ⟨hss.s.only ho hS9, hss.h.only ho hS9, huw.only ho hS9 (fun k hk e => by
   obtain ⟨_, cur, hc⟩ := upB_blk huw hk
   exact Blk.ne_ hc hMd.kg (by decide) e)⟩ (fun z hz => .inl (by rw [hub z hz]; exact hg0))
  have hgr : ∀ G : Nat → Prop, grow G w.drew v1 = grow G w (v1.drew.setCell ⟨gs, i * 10 + 8, none⟩ (.slice u'.1 u'.2.1 u'.2.2)) := fun G => by
   funext k
   have h2 : (v1.drew.setCell ⟨gs, i * 10 + 8, none⟩ (.slice u'.1 u'.2.1 u'.2.2)).heap.size = v1.heap.size := by simp
   have h3 : w.drew.heap.size = w.heap.size := rfl
   unfold grow
   rw [h2, h3]
  have hs0 : ShG (v1.drew.setCell ⟨gs, i * 10 + 8, none⟩ (.slice u'.1 u'.2.1 u'.2.2)) (grow F0 w.drew v1) sq s1 none 1 0 tz := ⟨(HM0.out.mem.below (Below.drew (Below.refl _ _))).only ho (fun k hk e => HM1.out.fg (by
   rw [← e]
   rcases hk with hk | hk
   · exact .inl (HF.out k hk)
   · exact .inr hk)), HM0.out.inv⟩
  rw [hgr F0] at hs0
  rw [hgr F] at hM2
  refine ⟨⟨gs, cap, _, sp, hM2, HPq.out, HPg.out, ?_⟩, hs0, HOW.out.trans ((Only.drew v1).trans (ho.mono fun k _ hk => by rw [hk]; exact .inl HPg.out))⟩
  · intro j b hb z hz
    by_cases hj : j = i
    · subst hj
      rw [List.getElem?_set_self (by rw [hMd.le]; exact (List.getElem?_eq_some_iff.1 HX.out).1)] at hb
      have hb := Option.some.inj hb
      subst hb
      rw [hub z hz]
      exact HPu.out _ _ HA.out g hg0
    · rw [List.getElem?_set_ne (Ne.symm hj)] at hb
      exact HPu.out j b hb z hz
 have HEND := Lib.hid hend
 clear hend
 by_cases hu31 : u3 = 1
 · subst hu31
   have hupw : UpW v1.drew (grow F w.drew v1) (some ⟨g, o, none⟩, 0, 0) [] := ⟨Nat.zero_le _, .inl ⟨rfl, rfl, fun hh => absurd hh (by simp)⟩⟩
   have HUPW := Lib.hid hupw
   clear hupw
   go_still_tail 16, (by kernel_rfl)
   change wpList _ _ _ _ _ v1.drew
   go_wp2_with fail
   go_ret
   obtain ⟨z1, z0, z2⟩ := HEND.out (some ⟨g, o, none⟩, 0, 0) (fun z hz => by unfold upB at hz; rw [if_pos rfl] at hz; cases hz) HUPW.out
   exact ⟨rfl, z1, z0, z2⟩
 · have hne : (u3 = 1) = False := by simp; exact hu31
   have hupw : UpW v1.drew (grow F w.drew v1) (some ⟨g, o + 4, none⟩, 0, u3 - 1) [] := ⟨by have := HU3M.out; simp only; omega, .inl ⟨rfl, rfl, fun hh => ⟨g, o + 4, cur, rfl, fun hgr => by
    rcases hgr with hgr | hgr
    · exact HNF.out hgr
    · have h1 := KR.out.lt
      have h3 : w.drew.heap.size = w.heap.size := rfl
      omega, KR1.out.drew, by have := HCS.out; simp only; omega⟩⟩⟩
   have HUPW := Lib.hid hupw
   clear hupw
   go_still_tail 16, (by kernel_rfl)
   change wpList _ _ _ _ _ v1.drew
   go_wp2_with fail
   go_ret
   obtain ⟨z1, z0, z2⟩ := HEND.out (some ⟨g, o + 4, none⟩, 0, u3 - 1) (fun z hz => by unfold upB at hz; rw [if_neg (by simp only; omega)] at hz; injection hz with hz; exact hz.symm) HUPW.out
   exact ⟨rfl, z1, z0, z2⟩
theorem wdownno_P (w : World) (P : Nat → Prop) (q : Nat) (s : Sh) (X : List St) (put edits : Int) (h : WdP w P q s X put edits) (i : Nat) (x : St) (hx : X[i]? = some x) (hb : s.log.base = 0) (ht : x.told = s.log.revs.length) :
 Calls Try.prog 27 #[.pointer (some ⟨q, 0, none⟩), .int .i64 i] w fun e w' => e = .returned (.bool false) ∧ Below w.heap.size w w' := by
 obtain ⟨F, sq, gs, cap, E, sp, h, hF, hPq, hPg, hPu⟩ := h
 obtain ⟨N, hN⟩ : ∃ N, X.length = N := ⟨_, rfl⟩
 have hkq := h.kq
 have hc1 := h.c1
 have hc2 := h.c2
 rw [hN] at hkq hc1
 have hcp : (N : Int) ≤ (cap : Int) := by omega
 have hcm : (cap : Int) ≤ 9223372036854775807 := by simp only [maxLen] at hc2; omega
 have hN0 : (0 : Int) ≤ (N : Int) := by omega
 have q0 : w.cell? ⟨q, 0, none⟩ = some (.pointer (some ⟨sq, 0, none⟩)) := hkq.cell 0
 have q1 : w.cell? ⟨q, 1, none⟩ = some (.slice (some ⟨gs, 0, none⟩) N cap) := hkq.cell 1
 have lq := hkq.lt
 have lg := h.kg.lt
 have hiN : i < N := by rw [← hN]; exact (List.getElem?_eq_some_iff.1 hx).1
 have hi0 : (0 : Int) ≤ (i : Int) := by omega
 have hiN' : (i : Int) < (N : Int) := by omega
 obtain ⟨⟨⟨a1, a2, a3⟩, ⟨b1, b2, b3⟩, ⟨u1, u2, u3⟩⟩, ha, hs, hat⟩ := h.at_ hx
 have hi9 : decide ((i : Int) < 0) = false := decide_eq_false (by omega)
 have hn9 : decide (N ≤ i) = false := decide_eq_false (by omega)
 have hn8 : decide ((N : Int) ≤ (i : Int)) = false := decide_eq_false (by omega)
 have e9 : w.cell? ⟨gs, i * 10 + 9, none⟩ = some (.int .i64 x.told) := hat 9 (by decide)
 have row9 : (rowW X E ++ sp).toArray[i * 10 + 9]? = some (.int .i64 x.told) := (h.kg.cell _).symm.trans e9
 have HR9 := Lib.hid row9
 have hh := shead_B sq s none 0 1 w.drew (ShB.of ((h.below (Below.drew (Below.refl _ _))).sh) (fun _ _ => Nat.zero_le _))
 rw [hb, Int.zero_add] at hh
 obtain ⟨LR, hLR⟩ : ∃ LR, s.log.revs.length = LR := ⟨_, rfl⟩
 rw [hLR] at hh
 have HH := Lib.hid hh
 have HLR := Lib.hid hLR
 have heq : ((x.told : Int) == (LR : Int)) = true := by rw [ht, hLR]; simp
 have HM := Lib.hid h
 have HX := Lib.hid hx
 have HA := Lib.hid ha
 have HS := Lib.hid hs
 have HF := Lib.hid hF
 have HPq := Lib.hid hPq
 have HPg := Lib.hid hPg
 have HPu := Lib.hid hPu
 have HNN := Lib.hid hN
 clear h hx ha hs hat hkq hc1 hc2 hN hF hPq hPg hPu
 clear hh hLR row9 ht
 go_enter Try.func27, Try.ntmps27
 go_upto_region 1 with (fail)
 refine wp_region_held (S := fun w' => w'.cell? ⟨q, 0, none⟩ = some (.pointer (some ⟨sq, 0, none⟩)) ∧ w'.cell? ⟨q, 1, none⟩ = some (.slice (some ⟨gs, 0, none⟩) N cap) ∧ w'.cell? ⟨gs, i * 10 + 9, none⟩ = some (.int .i64 x.told)) (by kernel_rfl) ?_
 have hS : w.drew.cell? ⟨q, 0, none⟩ = some (.pointer (some ⟨sq, 0, none⟩)) ∧ w.drew.cell? ⟨q, 1, none⟩ = some (.slice (some ⟨gs, 0, none⟩) N cap) ∧ w.drew.cell? ⟨gs, i * 10 + 9, none⟩ = some (.int .i64 x.told) := ⟨q0, q1, e9⟩
 change wpAnyH _ _ _ _ _ _ _ _ w.drew
 refine tkZ 10 0 rfl rfl (.int .i64 i) (.inl ⟨rfl, fun w' h' => by go_simp⟩) hS ?_
 simp only [Act.put, zA, zB, zC]
 refine tkZ 11 1 rfl rfl (.bool false) (.inl ⟨rfl, fun w' h' => by go_simp⟩) hS ?_
 simp only [Act.put, zA, zB, zC]
 refine tkZ 12 2 rfl rfl (.bool false) (.inl ⟨rfl, fun w' h' => by go_simp⟩) hS ?_
 simp only [Act.put, zA, zB, zC]
 refine tkZ 13 3 rfl rfl (.int .i64 i) (.inl ⟨rfl, fun w' h' => by go_simp⟩) hS ?_
 simp only [Act.put, zA, zB, zC]
 refine tkZ 14 4 rfl rfl (.pointer (some ⟨q, 0, none⟩)) (.inl ⟨rfl, fun w' h' => by go_simp⟩) hS ?_
 simp only [Act.put, zA, zB, zC]
 refine tkZ 15 5 rfl rfl (.pointer (some ⟨q, 0, none⟩)) (.inl ⟨rfl, fun w' h' => by go_simp⟩) hS ?_
 simp only [Act.put, zA, zB, zC]
 refine tkZ 16 6 rfl rfl (.pointer (some ⟨q, 1, none⟩)) (.inl ⟨rfl, fun w' h' => by go_simp⟩) hS ?_
 simp only [Act.put, zA, zB, zC]
 refine tkZ 17 7 rfl rfl (.slice (some ⟨gs, 0, none⟩) N cap) (.inl ⟨rfl, fun w' h' => by obtain ⟨h1, h2, h3⟩ := h'; go_simp⟩) hS ?_
 simp only [Act.put, zA, zB, zC]
 refine tkZ 18 8 rfl rfl (.int .i64 N) (.inl ⟨rfl, fun w' h' => by go_simp⟩) hS ?_
 simp only [Act.put, zA, zB, zC]
 refine tkZ 19 9 rfl rfl (.bool false) (.inl ⟨rfl, fun w' h' => by go_simp⟩) hS ?_
 simp only [Act.put, zA, zB, zC]
 refine tkZ 20 10 rfl rfl (.bool false) (.inl ⟨rfl, fun w' h' => by go_simp⟩) hS ?_
 simp only [Act.put, zA, zB, zC]
 refine tkZ 21 11 rfl rfl (.bool false) (.inl ⟨rfl, fun w' h' => by go_simp⟩) hS ?_
 simp only [Act.put, zA, zB, zC]
 refine tkZ 22 12 rfl rfl (.pointer (some ⟨q, 0, none⟩)) (.inl ⟨rfl, fun w' h' => by go_simp⟩) hS ?_
 simp only [Act.put, zA, zB, zC]
 refine tkZ 23 13 rfl rfl (.pointer (some ⟨q, 0, none⟩)) (.inl ⟨rfl, fun w' h' => by go_simp⟩) hS ?_
 simp only [Act.put, zA, zB, zC]
 refine tkZ 24 14 rfl rfl (.pointer (some ⟨q, 1, none⟩)) (.inl ⟨rfl, fun w' h' => by go_simp⟩) hS ?_
 simp only [Act.put, zA, zB, zC]
 refine tkZ 25 15 rfl rfl (.slice (some ⟨gs, 0, none⟩) N cap) (.inl ⟨rfl, fun w' h' => by obtain ⟨h1, h2, h3⟩ := h'; go_simp⟩) hS ?_
 simp only [Act.put, zA, zB, zC]
 refine tkZ 26 16 rfl rfl (.int .i64 i) (.inl ⟨rfl, fun w' h' => by go_simp⟩) hS ?_
 simp only [Act.put, zA, zB, zC]
 refine tkZ 27 17 rfl rfl (.pointer (some ⟨gs, i * 10, none⟩)) (.inl ⟨rfl, fun w' h' => by go_simp⟩) hS ?_
 simp only [Act.put, zA, zB, zC]
 refine tkZ 28 18 rfl rfl (.pointer (some ⟨gs, i * 10 + 9, none⟩)) (.inl ⟨rfl, fun w' h' => by go_simp⟩) hS ?_
 simp only [Act.put, zA, zB, zC]
 refine tkZ 29 19 rfl rfl (.int .i64 x.told) (.inl ⟨rfl, fun w' h' => by obtain ⟨h1, h2, h3⟩ := h'; go_simp⟩) hS ?_
 simp only [Act.put, zA, zB, zC]
 refine tkZ 30 20 rfl rfl (.pointer (some ⟨q, 0, none⟩)) (.inl ⟨rfl, fun w' h' => by go_simp⟩) hS ?_
 simp only [Act.put, zA, zB, zC]
 refine tkZ 31 21 rfl rfl (.pointer (some ⟨q, 0, none⟩)) (.inl ⟨rfl, fun w' h' => by go_simp⟩) hS ?_
 simp only [Act.put, zA, zB, zC]
 refine tkZ 32 22 rfl rfl (.pointer (some ⟨q, 0, none⟩)) (.inl ⟨rfl, fun w' h' => by go_simp⟩) hS ?_
 simp only [Act.put, zA, zB, zC]
 refine tkZ 33 23 rfl rfl (.pointer (some ⟨sq, 0, none⟩)) (.inl ⟨rfl, fun w' h' => by obtain ⟨h1, h2, h3⟩ := h'; go_simp⟩) hS ?_
 simp only [Act.put, zA, zB, zC]
 have hcc_ := HH.out
 refine wpAnyH_all (rs := [24]) (by kernel_rfl) (List.cons_ne_nil _ _) (fun i24 hi24 => ?_)
 obtain rfl := List.mem_singleton.1 hi24
 refine wpOp_enter 34 rfl rfl rfl 40 #[.pointer (some ⟨sq, 0, none⟩)] (by go_simp) (.int .i64 (LR : Int)) (fun w' => Below w.drew.heap.size w.drew w') hcc_ ?_
 intro v1 hv1
 simp only [Act.put, zA, zB, zC]
 clear hcc_
 have hb1 : Below w.heap.size w v1 := (Below.drew (Below.refl _ _)).trans hv1
 have HM1 := Lib.hid (HM.out.below hb1)
 have hSv1 : v1.cell? ⟨q, 0, none⟩ = some (.pointer (some ⟨sq, 0, none⟩)) ∧ v1.cell? ⟨q, 1, none⟩ = some (.slice (some ⟨gs, 0, none⟩) N cap) ∧ v1.cell? ⟨gs, i * 10 + 9, none⟩ = some (.int .i64 x.told) := ⟨HM1.out.kq.cell 0, (HM1.out.kq.cell 1).trans (by rw [HNN.out]; rfl), (HM1.out.kg.cell _).trans HR9.out⟩
 have HB1 := Lib.hid hb1
 clear hb1
 refine ⟨hSv1, ?_⟩
 refine tkZ 35 25 rfl rfl (.bool true) (.inl ⟨rfl, fun w' h' => by go_simp⟩) hSv1 ?_
 simp only [Act.put, zA, zB, zC]
 refine tkZ 36 26 rfl rfl (.bool true) (.inl ⟨rfl, fun w' h' => by go_simp⟩) hSv1 ?_
 simp only [Act.put, zA, zB, zC]
 refine wpAnyH_done (by kernel_rfl) ?_ _
 clear hSv1 hS
 go_wp2_with fail
 go_ret
 exact ⟨rfl, HB1.out⟩
end Go.Proofs.Ytokngfinnieccaa
