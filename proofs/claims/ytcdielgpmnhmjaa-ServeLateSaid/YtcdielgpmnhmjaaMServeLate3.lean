/- A message, opened. walk of scrivkeep.ServePassed. Contracts of part.Idle and revs.Between. -/
import Derived.Test.YtcdielgpmnhmjaaK18
import Derived.OpenShut
import Derived.Lib.SmallJoins
import Derived.Test.YtcdielgpmnhmjaaMServeLate2
import Derived.Test.YtcdielgpmnhmjaaK32
import Derived.Test.YtcdielgpmnhmjaaK16
import Derived.Test.YtcdielgpmnhmjaaK6
import Derived.Test.YtcdielgpmnhmjaaK12
import Derived.Test.YtcdielgpmnhmjaaK20
namespace Go.Proofs.Ytcdielgpmnhmjaa
open Go.ChangeShapes Go.WideShapes Go.RowKit Go.Joins Go.Deep
set_option linter.unusedVariables false
set_option linter.unusedSimpArgs false
set_option maxRecDepth 100000

/-- a message as it came in: base, hand, number, delta -/
def IsMsg (w : World) (v : Value) (x : Int × Int × Int × List Pt) : Prop := ∃ A n c, v = .agg #[.int .i64 x.1, .int .i64 x.2.1, .int .i64 x.2.2.1, .slice A n c] ∧ RdP w w.heap.size A n c x.2.2.2
section
variable {H : Type} {enc : TypeId × Value → H} {w : World} {base : Nat} {spare : Nat → Bool} {held : Bool}
theorem open_msg_said {r : Reach} {b0 : Nat} {v : Value} {d : DataW H} {p : List MemPlace} (hv : Value.okWide Try.prog w r b0 56 v) (h : DataW.Trod enc Try.prog w base spare held 56 v d p) (_ : ∀ x ∈ p, x.block < w.heap.size)
    (hb : ∀ x ∈ DataW.weights Try.prog 56 d, x ≤ 140737488351232) : ∃ x, IsMsg w v x := by
  obtain ⟨v0, v1, v2, v3, y0, y1, y2, y3, n, rfl, rfl, rfl, h0, h1, h2, h3⟩ := open_agg4 Try.underlying56 (by kernel_rfl) (by kernel_rfl) hv h
  obtain ⟨a, e0, rfl, _⟩ := DataW.trod_int Try.underlying3 h0
  obtain ⟨b, e1, rfl, _⟩ := DataW.trod_int Try.underlying3 h1
  obtain ⟨c, e2, rfl, _⟩ := DataW.trod_int Try.underlying3 h2
  obtain ⟨l, A, m, cc, rfl, hr⟩ := read_parts h3 (fun q hq => hb q (by
    simp only [DataW.weights, Try.underlying56, List.map_cons, List.map_nil, DataW.weightsEach, List.nil_append, List.append_nil, List.mem_append]
    exact hq))
  simp only [List.cons.injEq, and_true] at e0 e1 e2
  subst e0 e1 e2
  exact ⟨(a, b, c, l), A, m, cc, rfl, hr⟩
end
end Go.Proofs.Ytcdielgpmnhmjaa
namespace Go.Proofs.Ytcdielgpmnhmjaa
open Go.ChangeShapes Go.WideShapes Go.RowKit
set_option linter.unusedVariables false
set_option linter.unusedSimpArgs false
set_option maxRecDepth 100000
set_option maxHeartbeats 4000000

theorem pmsg_info : (Try.prog.info? 56).map (·.size) = some 4 := by kernel_rfl
theorem pmsg_row {W : World} {g : Nat} {cs : Array Value} (h : Blk W g 56 cs) (hs : cs.size = 4) : (loadVar 56 ⟨g, 0, none⟩).run Try.prog W = .ok (.agg cs) W :=
  run_loadVar_row (P := Try.prog) W g 56 56 _ _ _ h Try.underlying56 rfl (by rw [hs]; exact pmsg_info)
/-- no revision of the table is behind the last -/
theorem tblF_le : ∀ (l : List Rv) (n : Int) (t : Tb), (∀ p ∈ t, p.2 ≤ n) → ∀ p ∈ tblF n t l, p.2 ≤ n + (l.length : Int)
  | [], n, t, h, p, hp => by simpa using h p hp
  | r :: l, n, t, h, p, hp => by
    have h1 := tblF_le l (n + 1) (t.set r.1.toNat (r.2.1, n + 1)) (fun p hp => by
      rcases List.mem_or_eq_of_mem_set hp with h2 | h2
      · have := h p h2; omega
      · rw [h2]; exact Int.le_refl _) p hp
    rw [List.length_cons]
    omega
theorem tab_head (l : List Rv) (x : Int) : (subT (fillS shN l) x).2 ≤ (fillS shN l).log.base + ((fillS shN l).log.revs.length : Int) := by
  have hI := (fillS_inv l shN ShI.new).log
  unfold subT
  rw [hI.tb, hI.eb, List.getD_eq_getElem?_getD]
  by_cases hx : x.toNat < (tblF ((0 : Nat) : Int) (tbN tz) (fillS shN l).log.revs).length
  · rw [List.getElem?_eq_getElem hx]
    exact tblF_le _ _ _ (by decide) _ (List.getElem_mem hx)
  · rw [List.getElem?_eq_none (by omega)]
    simp only [Option.getD_none]
    omega
def s2P : Sh := addS (addS shN (1, 1, [(2, 0, ⟨#[97]⟩)])) (1, 3, allL 1)
theorem fill_2P : fillS shN [(1, 1, [(2, 0, ⟨#[97]⟩)]), (1, 3, allL 1)] = s2P := by
  simp only [fillS]
  rw [if_pos fill_a, if_pos (by decide +kernel)]
  rfl
theorem sub_2P : subE s2P 2 1 2 (allL 1) = 10 := by decide +kernel
theorem subN_2P : subN s2P 2 1 2 (allL 1) = 0 := by
  unfold subN
  rw [sub_2P]
  rfl
/-- what is handed in, in three ways -/
theorem sub_ways (s : Sh) (bs who sq : Int) (d : List Pt) : (subE s bs who sq d ≠ 0 ∧ subN s bs who sq d = 0 ∧ subS s none bs who sq d = s) ∨
    (subE s bs who sq d = 0 ∧ subN s bs who sq d = (subT s who).2 ∧ subS s none bs who sq d = s ∧ sq = (subT s who).1) ∨
    (subE s bs who sq d = 0 ∧ subN s bs who sq d = s.log.base + (s.log.revs.length : Int) + 1 ∧ (subS s none bs who sq d).log.base = s.log.base ∧ (subS s none bs who sq d).log.revs.length = s.log.revs.length + 1 ∧ (subT s who).1 < sq) := by
  by_cases hE : subE s bs who sq d = 0
  · right
    by_cases hA : subAgain s who sq d
    · left
      refine ⟨hE, ?_, ?_, hA.2.2.2⟩
      · unfold subN; rw [if_neg (by simp [hE]), if_pos hA]
      · unfold subS; rw [if_pos (.inr hA)]
    · right
      have hE' := hE
      unfold subE at hE'
      split at hE'
      · cases hE'
      · split at hE'
        · exact absurd hE' (by assumption)
        · split at hE'
          · exact absurd ⟨by assumption, by omega, by omega, by omega⟩ hA
          · split at hE'
            · cases hE'
            · split at hE'
              · exact absurd hE' (by assumption)
              · split at hE'
                · cases hE'
                · split at hE'
                  · exact absurd hE' (by assumption)
                  · have hS : subS s none bs who sq d = addS s (who, sq, mtL d (s.log.revs.drop (bs - s.log.base).toNat)) := by
                      unfold subS
                      rw [if_neg (by rintro (h | h); exact h hE; exact hA h)]
                      unfold addG
                      rw [if_pos hE', if_neg (by decide)]
                    refine ⟨hE, ?_, ?_, ?_, by omega⟩
                    · unfold subN; rw [if_neg (by simp [hE]), if_neg hA]; omega
                    · rw [hS]; rfl
                    · rw [hS]; simp [addS, addL]
  · left
    refine ⟨hE, ?_, ?_⟩
    · unfold subN; rw [if_pos hE]
    · unfold subS; rw [if_pos (.inl hE)]
theorem walk_ServePassed (v : Value) (l : List Rv) (v2 : Value) (x : Int × Int × Int × List Pt) (w : World) (h : IsRevs w v l) (h2 : IsMsg w v2 x) :
    Calls Try.prog 6 #[v, v2] w fun e w' => e = .returned (.bool true) ∧ Below w.heap.size w w' := by
  obtain ⟨A, n, c, rfl, hrd⟩ := h
  obtain ⟨bs, who, sq, d⟩ := x
  obtain ⟨Am, nm, cm, rfl, hd⟩ := h2
  simp only at hd ⊢
  have kp := Blk.new w 56 #[.int .i64 bs, .int .i64 who, .int .i64 sq, .slice Am nm cm]
  have hal := (Below.refl w.heap.size w).alloc (Nat.le_refl _) (.cells #[.int .i64 bs, .int .i64 who, .int .i64 sq, .slice Am nm cm] 56)
  have hl0 := hrd.alloc (Nat.le_refl _) (.cells #[.int .i64 bs, .int .i64 who, .int .i64 sq, .slice Am nm cm] 56)
  have hd0 := hd.alloc (Nat.le_refl _) (.cells #[.int .i64 bs, .int .i64 who, .int .i64 sq, .slice Am nm cm] 56)
  clear hrd hd
  go_enter Try.func6, Try.ntmps6
  go_upto_region 1 with (fail)
  obtain ⟨u1, hu1⟩ : ∃ u1, w.alloc (.cells #[.int .i64 bs, .int .i64 who, .int .i64 sq, .slice Am nm cm] 56) = u1 := ⟨_, rfl⟩
  rw [hu1] at kp hal hl0 hd0 ⊢
  obtain ⟨gz, hg⟩ : ∃ gz, w.heap.size = gz := ⟨_, rfl⟩
  rw [hg] at kp hal hl0 hd0 ⊢
  obtain ⟨B, hB⟩ : ∃ B, u1.heap.size = B := ⟨_, rfl⟩
  have hgB : gz < B := by rw [← hB]; exact kp.lt
  have HL := Lib.hid (hl0.more (Nat.le_of_lt hgB))
  have HD := Lib.hid (hd0.more (Nat.le_of_lt hgB))
  have HK := Lib.hid kp
  have HgB := Lib.hid hgB
  have HB : Hid (B ≤ u1.heap.size) := Lib.hid (by omega)
  have HW : Hid (Below B u1 u1) := Lib.hid (Below.refl _ _)
  have Hal := Lib.hid hal
  have Hg0 := Lib.hid hg
  clear kp hal hl0 hd0 hu1 hg hB hgB
  have hc_ := first_any ⟨#[97]⟩ (by decide) u1
  have Hc_ := Lib.hid hc_
  clear hc_
  go_wp2_with fail
  refine Hc_.out.mono ?_
  rintro e w1 ⟨Af, rfl, hrf, hb1⟩
  clear Hc_
  have HL_ := Lib.hid (RdR.below HL.out (hb1.mono HB.out))
  clear HL
  have HL := HL_
  clear HL_
  have HD_ := Lib.hid (RdP.below HD.out (hb1.mono HB.out))
  clear HD
  have HD := HD_
  clear HD_
  have HK_ := Lib.hid (HK.out.below hb1 HK.out.lt)
  clear HK
  have HK := HK_
  clear HK_
  have HW_ := Lib.hid (HW.out.trans (hb1.mono HB.out))
  clear HW
  have HW := HW_
  clear HW_
  have HB_ : Hid (B ≤ w1.heap.size) := Lib.hid (Nat.le_trans HB.out hb1.size)
  clear HB
  have HB := HB_
  clear HB_ hb1
  have HF := Lib.hid hrf
  clear hrf
  have hc_ := all_any 1 w1
  simp only [show (allL 1).length = 1 from rfl] at hc_
  have Hc_ := Lib.hid hc_
  clear hc_
  go_wp2_with fail
  refine Hc_.out.mono ?_
  rintro e w2 ⟨Aa, ca, rfl, hra, hb2⟩
  clear Hc_
  have HL_ := Lib.hid (RdR.below HL.out (hb2.mono HB.out))
  clear HL
  have HL := HL_
  clear HL_
  have HD_ := Lib.hid (RdP.below HD.out (hb2.mono HB.out))
  clear HD
  have HD := HD_
  clear HD_
  have HK_ := Lib.hid (HK.out.below hb2 HK.out.lt)
  clear HK
  have HK := HK_
  clear HK_
  have HF_ := Lib.hid (RdP.step HF.out hb2)
  clear HF
  have HF := HF_
  clear HF_
  have HW_ := Lib.hid (HW.out.trans (hb2.mono HB.out))
  clear HW
  have HW := HW_
  clear HW_
  have HB_ : Hid (B ≤ w2.heap.size) := Lib.hid (Nat.le_trans HB.out hb2.size)
  clear HB
  have HB := HB_
  clear HB_ hb2
  have hal := (Below.refl w2.heap.size w2).alloc (Nat.le_refl _) (.cells #[.int .i64 1, .int .i64 1, .slice Af 1 1, .int .i64 1, .int .i64 3, .slice Aa 1 ca] 27)
  have hfi := filled_B [(1, 1, [(2, 0, ⟨#[97]⟩)]), (1, 3, allL 1)] (some ⟨w2.heap.size, 0, none⟩) 2 2 (w2.alloc (.cells #[.int .i64 1, .int .i64 1, .slice Af 1 1, .int .i64 1, .int .i64 3, .slice Aa 1 ca] 27)) (RdR.built2 w2 1 1 1 3 Af Aa 1 1 1 ca [(2, 0, ⟨#[97]⟩)] (allL 1) HF.out hra)
  rw [fill_2P] at hfi
  clear hra
  clear HF
  have HL_ := Lib.hid (RdR.below HL.out (hal.mono HB.out))
  clear HL
  have HL := HL_
  clear HL_
  have HD_ := Lib.hid (RdP.below HD.out (hal.mono HB.out))
  clear HD
  have HD := HD_
  clear HD_
  have HK_ := Lib.hid (HK.out.below hal HK.out.lt)
  clear HK
  have HK := HK_
  clear HK_
  have HW_ := Lib.hid (HW.out.trans (hal.mono HB.out))
  clear HW
  have HW := HW_
  clear HW_
  have HB_ : Hid (B ≤ (w2.alloc (.cells #[.int .i64 1, .int .i64 1, .slice Af 1 1, .int .i64 1, .int .i64 3, .slice Aa 1 ca] 27)).heap.size) := Lib.hid (Nat.le_trans HB.out hal.size)
  clear HB
  have HB := HB_
  clear HB_ hal
  have HBo := HB
  have hc_ := hfi
  have Hc_ := Lib.hid hc_
  clear hc_
  go_wp2_with fail
  refine Hc_.out.mono ?_
  rintro e w3 ⟨q0, rfl, hm, hb3⟩
  clear Hc_
  have HL_ := Lib.hid (RdR.below HL.out (hb3.mono HB.out))
  clear HL
  have HL := HL_
  clear HL_
  have HD_ := Lib.hid (RdP.below HD.out (hb3.mono HB.out))
  clear HD
  have HD := HD_
  clear HD_
  have HK_ := Lib.hid (HK.out.below hb3 HK.out.lt)
  clear HK
  have HK := HK_
  clear HK_
  have HW_ := Lib.hid (HW.out.trans (hb3.mono HB.out))
  clear HW
  have HW := HW_
  clear HW_
  have HB_ : Hid (B ≤ w3.heap.size) := Lib.hid (Nat.le_trans HB.out hb3.size)
  clear HB
  have HB := HB_
  clear HB_ hb3
  clear hfi
  have hm := hm.base HBo.out
  have H0 := Lib.hid hm
  clear hm HBo
  have hc_ := all_any 1 w3
  simp only [show (allL 1).length = 1 from rfl] at hc_
  have Hc_ := Lib.hid hc_
  clear hc_
  go_wp2_with fail
  refine Hc_.out.mono ?_
  rintro e w4 ⟨Ab, cb, rfl, hrb, hb4⟩
  clear Hc_
  have HL_ := Lib.hid (RdR.below HL.out (hb4.mono HB.out))
  clear HL
  have HL := HL_
  clear HL_
  have HD_ := Lib.hid (RdP.below HD.out (hb4.mono HB.out))
  clear HD
  have HD := HD_
  clear HD_
  have HK_ := Lib.hid (HK.out.below hb4 HK.out.lt)
  clear HK
  have HK := HK_
  clear HK_
  have H0_ := Lib.hid (H0.out.below hb4)
  clear H0
  have H0 := H0_
  clear H0_
  have HW_ := Lib.hid (HW.out.trans (hb4.mono HB.out))
  clear HW
  have HW := HW_
  clear HW_
  have HB_ : Hid (B ≤ w4.heap.size) := Lib.hid (Nat.le_trans HB.out hb4.size)
  clear HB
  have HB := HB_
  clear HB_ hb4
  have hc_ := submit_B q0 s2P none B 1 2 1 2 (allL 1) Ab 1 cb w4 H0.out HB.out hrb
  rw [sub_2P, subN_2P] at hc_
  clear hrb
  have Hc_ := Lib.hid hc_
  clear hc_
  go_wp2_with fail
  refine Hc_.out.mono ?_
  rintro e w5 ⟨rfl, hm, hb⟩
  clear Hc_
  have HL_ := Lib.hid (RdR.below HL.out hb)
  clear HL
  have HL := HL_
  clear HL_
  have HD_ := Lib.hid (RdP.below HD.out hb)
  clear HD
  have HD := HD_
  clear HD_
  have HK_ := Lib.hid (HK.out.below hb HgB.out)
  clear HK
  have HK := HK_
  clear HK_
  have HW_ := Lib.hid (HW.out.trans hb)
  clear HW
  have HW := HW_
  clear HW_
  have HB_ : Hid (B ≤ w5.heap.size) := Lib.hid (Nat.le_trans HB.out hb.size)
  clear HB
  have HB := HB_
  clear HB_ hb
  clear H0 hm
  have HBo := HB
  have hc_ := filled_B l A n c w5 (HL.out.more HB.out)
  have Hc_ := Lib.hid hc_
  clear hc_
  go_wp2_with fail
  refine Hc_.out.mono ?_
  rintro e w6 ⟨q, rfl, hm, hb6⟩
  clear Hc_
  have HL_ := Lib.hid (RdR.below HL.out (hb6.mono HB.out))
  clear HL
  have HL := HL_
  clear HL_
  have HD_ := Lib.hid (RdP.below HD.out (hb6.mono HB.out))
  clear HD
  have HD := HD_
  clear HD_
  have HK_ := Lib.hid (HK.out.below hb6 HK.out.lt)
  clear HK
  have HK := HK_
  clear HK_
  have HW_ := Lib.hid (HW.out.trans (hb6.mono HB.out))
  clear HW
  have HW := HW_
  clear HW_
  have HB_ : Hid (B ≤ w6.heap.size) := Lib.hid (Nat.le_trans HB.out hb6.size)
  clear HB
  have HB := HB_
  clear HB_ hb6
  have hm := hm.base HBo.out
  have hS2 := base_fill l shN
  have hS4 := hm.hg.len
  have hS5 := tab_head l who
  obtain ⟨s0, hs0⟩ : ∃ s0, fillS shN l = s0 := ⟨_, rfl⟩
  rw [hs0] at hm hS2 hS4 hS5
  obtain ⟨N, hN⟩ : ∃ N, s0.log.revs.length = N := ⟨_, rfl⟩
  rw [hN] at hS4 hS5
  have hN1 : N ≤ 64 := hS4
  have HBase : Hid (s0.log.base = 0) := Lib.hid hS2
  rw [HBase.out, Int.zero_add] at hS5
  have H5 := Lib.hid hS5
  have HN := Lib.hid hN
  have hN0 : (0 : Int) ≤ (N : Int) := by omega
  obtain ⟨b, tN, hgg⟩ := hm
  obtain ⟨Zw, hZw⟩ : ∃ Zw, w6.heap.size = Zw := ⟨_, rfl⟩
  rw [hZw] at hgg
  have HZ : Hid (Zw ≤ w6.heap.size) := Lib.hid (by omega)
  clear hS2 hS4 hS5 hs0 hN HL HBo hZw
  have HG := Lib.hid hgg
  clear hgg
  have hc_ := shead_B q s0 none B 1 w6 (ShB.of (B := B) HG.out (fun k hk => hk.1))
  rw [HBase.out, HN.out, Int.zero_add] at hc_
  have Hc_ := Lib.hid hc_
  clear hc_
  go_wp2_with fail
  refine Hc_.out.mono ?_
  rintro e w7 ⟨rfl, hb7⟩
  clear Hc_
  have HD_ := Lib.hid (RdP.below HD.out (hb7.mono HB.out))
  clear HD
  have HD := HD_
  clear HD_
  have HK_ := Lib.hid (HK.out.below hb7 HK.out.lt)
  clear HK
  have HK := HK_
  clear HK_
  have HG_ := Lib.hid (HG.out.below hb7)
  clear HG
  have HG := HG_
  clear HG_
  have HZ_ := Lib.hid (Nat.le_trans HZ.out (hb7.size))
  clear HZ
  have HZ := HZ_
  clear HZ_
  have HW_ := Lib.hid (HW.out.trans (hb7.mono HB.out))
  clear HW
  have HW := HW_
  clear HW_
  have HB_ : Hid (B ≤ w7.heap.size) := Lib.hid (Nat.le_trans HB.out hb7.size)
  clear HB
  have HB := HB_
  clear HB_ hb7
  by_cases hw : who < 0 ∨ 7 < who
  · skip
    have z1 := HK.out.cell 1
    have lz := HK.out.lt
    have hc_ := slastno_B q s0 none B 1 who w7 (ShB.of (B := B) HG.out (fun k hk => hk.1)) hw
    have Hc_ := Lib.hid hc_
    clear hc_
    go_wp2_with fail
    refine Hc_.out.mono ?_
    rintro e w8 ⟨rfl, hb8⟩
    clear Hc_
    have HD_ := Lib.hid (RdP.below HD.out (hb8.mono HB.out))
    clear HD
    have HD := HD_
    clear HD_
    have HK_ := Lib.hid (HK.out.below hb8 HK.out.lt)
    clear HK
    have HK := HK_
    clear HK_
    have HG_ := Lib.hid (HG.out.below hb8)
    clear HG
    have HG := HG_
    clear HG_
    have HZ_ := Lib.hid (Nat.le_trans HZ.out (hb8.size))
    clear HZ
    have HZ := HZ_
    clear HZ_
    have HW_ := Lib.hid (HW.out.trans (hb8.mono HB.out))
    clear HW
    have HW := HW_
    clear HW_
    have HB_ : Hid (B ≤ w8.heap.size) := Lib.hid (Nat.le_trans HB.out hb8.size)
    clear HB
    have HB := HB_
    clear HB_ hb8
    clear z1 lz
    have hal := (Below.refl w8.heap.size w8).alloc (Nat.le_refl _) (.cells #[.int .i64 0, .int .i64 0] 51)
    have hkd := Blk.new w8 51 #[.int .i64 0, .int .i64 0]
    obtain ⟨x0, hx0⟩ : ∃ x0, w8.heap.size = x0 := ⟨_, rfl⟩
    have HZx : Hid (Zw ≤ x0) := Lib.hid (by rw [← hx0]; exact HZ.out)
    have HBx : Hid (B ≤ x0) := Lib.hid (by rw [← hx0]; exact HB.out)
    rw [hx0] at hkd
    have HKd := Lib.hid hkd
    have Hx0 := Lib.hid hx0
    clear hkd hx0
    have HD_ := Lib.hid (RdP.below HD.out (hal.mono HB.out))
    clear HD
    have HD := HD_
    clear HD_
    have HK_ := Lib.hid (HK.out.below hal HK.out.lt)
    clear HK
    have HK := HK_
    clear HK_
    have HG_ := Lib.hid (HG.out.below hal)
    clear HG
    have HG := HG_
    clear HG_
    have HZ_ := Lib.hid (Nat.le_trans HZ.out (hal.size))
    clear HZ
    have HZ := HZ_
    clear HZ_
    have HW_ := Lib.hid (HW.out.trans (hal.mono HB.out))
    clear HW
    have HW := HW_
    clear HW_
    have HB_ : Hid (B ≤ (w8.alloc (.cells #[.int .i64 0, .int .i64 0] 51)).heap.size) := Lib.hid (Nat.le_trans HB.out hal.size)
    clear HB
    have HB := HB_
    clear HB_ hal
    have hc_ := submit_G q s0 none _ 1 b tN bs who sq d Am nm cm (w8.alloc (.cells #[.int .i64 0, .int .i64 0] 51)) HG.out (HD.out.more HB.out)
    have hE : subE s0 bs who sq d = 1 := by unfold subE; rw [if_pos (by omega)]
    have hNn : subN s0 bs who sq d = 0 := by unfold subN; rw [hE, if_pos (by decide)]
    rw [hE, hNn] at hc_
    clear hE hNn
    have Hc_ := Lib.hid hc_
    have Hrow := Lib.hid (pmsg_row HK.out rfl)
    clear hc_
    go_wp2_with (first | (refine wpList_load_blk rfl _ (.tmp 3) rfl gz rfl _ Hrow.out ?_))
    rw [Hx0.out]
    refine Hc_.out.mono ?_
    rintro e v1 ⟨rfl, hm, oo⟩
    clear Hc_ Hrow
    have hb := oo.below HB.out (fun k hk => hk.1)
    have HKd_ := Lib.hid (HKd.out.only oo (fun hk => by have h1 : B ≤ x0 ∧ x0 < Zw := hk; have := HZx.out; omega))
    clear HKd
    have HKd := HKd_
    have HK_ := Lib.hid (HK.out.below hb HgB.out)
    clear HK
    have HK := HK_
    have HW_ := Lib.hid (HW.out.trans hb)
    clear HW
    have HW := HW_
    have HB_ : Hid (B ≤ v1.heap.size) := Lib.hid (Nat.le_trans HB.out hb.size)
    have HM := Lib.hid (ShB.of (B := 0) hm (fun _ _ => Nat.zero_le _))
    clear HB
    have HB := HB_
    clear HB_ HW_ HKd_ HK_ HG HZ hm oo hb HZx HBx Hx0
    go_wp2_with fail
    go_ret
    exact ⟨rfl, Hg0.out ▸ Hal.out.trans (HW.out.mono (Nat.le_of_lt HgB.out))⟩
  · skip
    obtain ⟨x, rfl⟩ := Int.eq_ofNat_of_zero_le (show 0 ≤ who by omega)
    have hx8 : x < 8 := by omega
    clear hw
    have hway := sub_ways s0 bs (x : Int) sq d
    obtain ⟨⟨T1, T2⟩, hT⟩ : ∃ T, subT s0 (x : Int) = T := ⟨_, rfl⟩
    have h5 := H5.out
    rw [hT] at h5 hway
    simp only at h5 hway
    rw [HBase.out, HN.out] at hway
    have HT2 : Hid (T2 ≤ (N : Int)) := Lib.hid h5
    have hT' : s0.log.table.getD x (0, 0) = (T1, T2) := hT
    have HT := Lib.hid hT'
    have Hway := Lib.hid hway
    clear hway h5 hT H5 hT' 
    have z1 := HK.out.cell 1
    have lz := HK.out.lt
    have hc_ := slast_B q s0 none B 1 x w7 (ShB.of (B := B) HG.out (fun k hk => hk.1)) hx8
    rw [HT.out] at hc_
    simp only at hc_
    have Hc_ := Lib.hid hc_
    clear hc_
    go_wp2_with fail
    refine Hc_.out.mono ?_
    rintro e w8 ⟨rfl, hb8⟩
    clear Hc_
    have HD_ := Lib.hid (RdP.below HD.out (hb8.mono HB.out))
    clear HD
    have HD := HD_
    clear HD_
    have HK_ := Lib.hid (HK.out.below hb8 HK.out.lt)
    clear HK
    have HK := HK_
    clear HK_
    have HG_ := Lib.hid (HG.out.below hb8)
    clear HG
    have HG := HG_
    clear HG_
    have HZ_ := Lib.hid (Nat.le_trans HZ.out (hb8.size))
    clear HZ
    have HZ := HZ_
    clear HZ_
    have HW_ := Lib.hid (HW.out.trans (hb8.mono HB.out))
    clear HW
    have HW := HW_
    clear HW_
    have HB_ : Hid (B ≤ w8.heap.size) := Lib.hid (Nat.le_trans HB.out hb8.size)
    clear HB
    have HB := HB_
    clear HB_ hb8
    clear z1 lz
    have hal := (Below.refl w8.heap.size w8).alloc (Nat.le_refl _) (.cells #[.int .i64 T1, .int .i64 T2] 51)
    have hkd := Blk.new w8 51 #[.int .i64 T1, .int .i64 T2]
    obtain ⟨x0, hx0⟩ : ∃ x0, w8.heap.size = x0 := ⟨_, rfl⟩
    have HZx : Hid (Zw ≤ x0) := Lib.hid (by rw [← hx0]; exact HZ.out)
    have HBx : Hid (B ≤ x0) := Lib.hid (by rw [← hx0]; exact HB.out)
    rw [hx0] at hkd
    have HKd := Lib.hid hkd
    have Hx0 := Lib.hid hx0
    clear hkd hx0
    have HD_ := Lib.hid (RdP.below HD.out (hal.mono HB.out))
    clear HD
    have HD := HD_
    clear HD_
    have HK_ := Lib.hid (HK.out.below hal HK.out.lt)
    clear HK
    have HK := HK_
    clear HK_
    have HG_ := Lib.hid (HG.out.below hal)
    clear HG
    have HG := HG_
    clear HG_
    have HZ_ := Lib.hid (Nat.le_trans HZ.out (hal.size))
    clear HZ
    have HZ := HZ_
    clear HZ_
    have HW_ := Lib.hid (HW.out.trans (hal.mono HB.out))
    clear HW
    have HW := HW_
    clear HW_
    have HB_ : Hid (B ≤ (w8.alloc (.cells #[.int .i64 T1, .int .i64 T2] 51)).heap.size) := Lib.hid (Nat.le_trans HB.out hal.size)
    clear HB
    have HB := HB_
    clear HB_ hal
    rcases Hway.out with ⟨e0, e1, e2⟩ | ⟨e0, e1, e2, e3⟩ | ⟨e0, e1, e2, e3, e4⟩
    · skip
      obtain ⟨EE, hEE⟩ : ∃ EE, subE s0 bs (x : Int) sq d = EE := ⟨_, rfl⟩
      rw [hEE] at e0
      have HEE := Lib.hid hEE
      have Hn := Lib.hid e1
      have Hs := Lib.hid e2
      have q1 : (EE == 0) = false := by simpa using e0
      have q2 : (EE != 0) = true := by simpa using e0
      clear hEE e0 e1 e2 Hway
      have hc_ := submit_G q s0 none _ 1 b tN bs (x : Int) sq d Am nm cm (w8.alloc (.cells #[.int .i64 T1, .int .i64 T2] 51)) HG.out (HD.out.more HB.out)
      rw [HEE.out, Hn.out, Hs.out] at hc_
      have Hc_ := Lib.hid hc_
      have Hrow := Lib.hid (pmsg_row HK.out rfl)
      clear hc_
      go_wp2_with (first | (refine wpList_load_blk rfl _ (.tmp 3) rfl gz rfl _ Hrow.out ?_))
      rw [Hx0.out]
      refine Hc_.out.mono ?_
      rintro e v1 ⟨rfl, hm, oo⟩
      clear Hc_ Hrow
      have hb := oo.below HB.out (fun k hk => hk.1)
      have HKd_ := Lib.hid (HKd.out.only oo (fun hk => by have h1 : B ≤ x0 ∧ x0 < Zw := hk; have := HZx.out; omega))
      clear HKd
      have HKd := HKd_
      have HK_ := Lib.hid (HK.out.below hb HgB.out)
      clear HK
      have HK := HK_
      have HW_ := Lib.hid (HW.out.trans hb)
      clear HW
      have HW := HW_
      have HB_ : Hid (B ≤ v1.heap.size) := Lib.hid (Nat.le_trans HB.out hb.size)
      have HM := Lib.hid (ShB.of (B := 0) hm (fun _ _ => Nat.zero_le _))
      clear HB
      have HB := HB_
      clear HB_ HW_ HKd_ HK_ HG HZ hm oo hb HZx HBx Hx0
      have hc_ := shead_B q s0 none 0 1 v1 HM.out
      rw [HBase.out, HN.out, Int.zero_add] at hc_
      have Hc_ := Lib.hid hc_
      clear hc_
      go_wp2_with fail
      refine Hc_.out.mono ?_
      rintro e w9 ⟨rfl, hb9⟩
      clear Hc_
      have HM_ := Lib.hid (HM.out.below hb9)
      clear HM
      have HM := HM_
      clear HM_
      have HKd_ := Lib.hid (HKd.out.below hb9 HKd.out.lt)
      clear HKd
      have HKd := HKd_
      clear HKd_
      have HK_ := Lib.hid (HK.out.below hb9 HK.out.lt)
      clear HK
      have HK := HK_
      clear HK_
      have HW_ := Lib.hid (HW.out.trans (hb9.mono HB.out))
      clear HW
      have HW := HW_
      clear HW_
      have HB_ : Hid (B ≤ w9.heap.size) := Lib.hid (Nat.le_trans HB.out hb9.size)
      clear HB
      have HB := HB_
      clear HB_ hb9
      go_wp2_with fail
      go_ret
      exact ⟨rfl, Hg0.out ▸ Hal.out.trans (HW.out.mono (Nat.le_of_lt HgB.out))⟩
    · skip
      have e3 := e3.symm
      subst e3
      have HEE := Lib.hid e0
      have Hn := Lib.hid e1
      have Hs := Lib.hid e2
      have q1 : decide ((N : Int) < T2) = false := decide_eq_false (by have := HT2.out; omega)
      clear e0 e1 e2 Hway
      have hc_ := submit_G q s0 none _ 1 b tN bs (x : Int) T1 d Am nm cm (w8.alloc (.cells #[.int .i64 T1, .int .i64 T2] 51)) HG.out (HD.out.more HB.out)
      rw [HEE.out, Hn.out, Hs.out] at hc_
      have Hc_ := Lib.hid hc_
      have Hrow := Lib.hid (pmsg_row HK.out rfl)
      clear hc_
      go_wp2_with (first | (refine wpList_load_blk rfl _ (.tmp 3) rfl gz rfl _ Hrow.out ?_))
      rw [Hx0.out]
      refine Hc_.out.mono ?_
      rintro e v1 ⟨rfl, hm, oo⟩
      clear Hc_ Hrow
      have hb := oo.below HB.out (fun k hk => hk.1)
      have HKd_ := Lib.hid (HKd.out.only oo (fun hk => by have h1 : B ≤ x0 ∧ x0 < Zw := hk; have := HZx.out; omega))
      clear HKd
      have HKd := HKd_
      have HK_ := Lib.hid (HK.out.below hb HgB.out)
      clear HK
      have HK := HK_
      have HW_ := Lib.hid (HW.out.trans hb)
      clear HW
      have HW := HW_
      have HB_ : Hid (B ≤ v1.heap.size) := Lib.hid (Nat.le_trans HB.out hb.size)
      have HM := Lib.hid (ShB.of (B := 0) hm (fun _ _ => Nat.zero_le _))
      clear HB
      have HB := HB_
      clear HB_ HW_ HKd_ HK_ HG HZ hm oo hb HZx HBx Hx0
      have hc_ := shead_B q s0 none 0 1 v1 HM.out
      rw [HBase.out, HN.out, Int.zero_add] at hc_
      have Hc_ := Lib.hid hc_
      clear hc_
      go_wp2_with fail
      refine Hc_.out.mono ?_
      rintro e w9 ⟨rfl, hb9⟩
      clear Hc_
      have HM_ := Lib.hid (HM.out.below hb9)
      clear HM
      have HM := HM_
      clear HM_
      have HKd_ := Lib.hid (HKd.out.below hb9 HKd.out.lt)
      clear HKd
      have HKd := HKd_
      clear HKd_
      have HK_ := Lib.hid (HK.out.below hb9 HK.out.lt)
      clear HK
      have HK := HK_
      clear HK_
      have HW_ := Lib.hid (HW.out.trans (hb9.mono HB.out))
      clear HW
      have HW := HW_
      clear HW_
      have HB_ : Hid (B ≤ w9.heap.size) := Lib.hid (Nat.le_trans HB.out hb9.size)
      clear HB
      have HB := HB_
      clear HB_ hb9
      have d0 := HKd.out.cell 0
      have d1 := HKd.out.cell 1
      have ld := HKd.out.lt
      have z2 := HK.out.cell 2
      have lz := HK.out.lt
      go_wp2_with fail
      go_ret
      exact ⟨rfl, Hg0.out ▸ Hal.out.trans (HW.out.mono (Nat.le_of_lt HgB.out))⟩
    · skip
      obtain ⟨s1, hs1⟩ : ∃ s1, subS s0 none bs (x : Int) sq d = s1 := ⟨_, rfl⟩
      rw [hs1] at e2 e3
      have e5 : s1.log.base + (s1.log.revs.length : Int) = (N : Int) + 1 := by omega
      have H5 := Lib.hid e5
      have HEE := Lib.hid e0
      have e1' : subN s0 bs (x : Int) sq d = (N : Int) + 1 := by omega
      have Hn := Lib.hid e1'
      have Hs := Lib.hid hs1
      have q1 : decide ((N : Int) < (N : Int) + 1) = true := decide_eq_true (by omega)
      have q2 : decide (T1 < sq) = true := decide_eq_true e4
      clear e0 e1 e1' e2 e3 e5 e4 hs1 Hway
      have hc_ := submit_G q s0 none _ 1 b tN bs (x : Int) sq d Am nm cm (w8.alloc (.cells #[.int .i64 T1, .int .i64 T2] 51)) HG.out (HD.out.more HB.out)
      rw [HEE.out, Hn.out, Hs.out] at hc_
      have Hc_ := Lib.hid hc_
      have Hrow := Lib.hid (pmsg_row HK.out rfl)
      clear hc_
      go_wp2_with (first | (refine wpList_load_blk rfl _ (.tmp 3) rfl gz rfl _ Hrow.out ?_))
      rw [Hx0.out]
      refine Hc_.out.mono ?_
      rintro e v1 ⟨rfl, hm, oo⟩
      clear Hc_ Hrow
      have hb := oo.below HB.out (fun k hk => hk.1)
      have HKd_ := Lib.hid (HKd.out.only oo (fun hk => by have h1 : B ≤ x0 ∧ x0 < Zw := hk; have := HZx.out; omega))
      clear HKd
      have HKd := HKd_
      have HK_ := Lib.hid (HK.out.below hb HgB.out)
      clear HK
      have HK := HK_
      have HW_ := Lib.hid (HW.out.trans hb)
      clear HW
      have HW := HW_
      have HB_ : Hid (B ≤ v1.heap.size) := Lib.hid (Nat.le_trans HB.out hb.size)
      have HM := Lib.hid (ShB.of (B := 0) hm (fun _ _ => Nat.zero_le _))
      clear HB
      have HB := HB_
      clear HB_ HW_ HKd_ HK_ HG HZ hm oo hb HZx HBx Hx0
      have hc_ := shead_B q s1 none 0 1 v1 HM.out
      rw [H5.out] at hc_
      have Hc_ := Lib.hid hc_
      clear hc_
      go_wp2_with fail
      refine Hc_.out.mono ?_
      rintro e w9 ⟨rfl, hb9⟩
      clear Hc_
      have HM_ := Lib.hid (HM.out.below hb9)
      clear HM
      have HM := HM_
      clear HM_
      have HKd_ := Lib.hid (HKd.out.below hb9 HKd.out.lt)
      clear HKd
      have HKd := HKd_
      clear HKd_
      have HK_ := Lib.hid (HK.out.below hb9 HK.out.lt)
      clear HK
      have HK := HK_
      clear HK_
      have HW_ := Lib.hid (HW.out.trans (hb9.mono HB.out))
      clear HW
      have HW := HW_
      clear HW_
      have HB_ : Hid (B ≤ w9.heap.size) := Lib.hid (Nat.le_trans HB.out hb9.size)
      clear HB
      have HB := HB_
      clear HB_ hb9
      have d0 := HKd.out.cell 0
      have d1 := HKd.out.cell 1
      have ld := HKd.out.lt
      have z2 := HK.out.cell 2
      have lz := HK.out.lt
      go_wp2_with fail
      go_ret
      exact ⟨rfl, Hg0.out ▸ Hal.out.trans (HW.out.mono (Nat.le_of_lt HgB.out))⟩
end Go.Proofs.Ytcdielgpmnhmjaa
namespace Go.Proofs.Ytcdielgpmnhmjaa
open Go.ChangeShapes Go.WideShapes Go.RowKit
set_option linter.unusedVariables false
set_option linter.unusedSimpArgs false
set_option maxRecDepth 100000
set_option maxHeartbeats 4000000

theorem comp_rdn (a b : List Pt) (A A' : Option Addr) (n n' c c' : Nat) (w : World) (h : RdP w w.heap.size A n c a) (h' : RdP w w.heap.size A' n' c' b) (z : Int) (x : List Pt) (hz : compE a b = z) (hx : compL a b = x) :
    Calls Try.prog 89 #[.slice A n c, .slice A' n' c'] w fun e w' => ∃ A1 n1 c1, e = .returned (.tuple #[.slice A1 n1 c1, .int .i64 z]) ∧ RdP w' w'.heap.size A1 n1 c1 x ∧ Below w.heap.size w w' := by
  subst hz; subst hx
  refine (comp_rd a b A A' n n' c c' w h h').mono ?_
  rintro e w' ⟨A1, c1, rfl, h1, hb⟩
  exact ⟨_, _, _, rfl, h1, hb⟩
theorem allL_small (n : Int) : ∀ p ∈ allL n, p.2.2.size ≤ 140737488351232 := by
  unfold allL
  split
  · simp
  · simp [emp]; decide
theorem idle_any (n : Nat) (hn : n ≤ 500) (w : World) :
    Calls Try.prog 118 #[.int .i64 n] w fun e w' => ∃ A m c, e = .returned (.slice A m c) ∧ RdP w' w'.heap.size A m c (allL n) ∧ Below w.heap.size w w' := by
  have hm0 := Mk.fresh w (.cells #[.slice none 0 0, .string ⟨#[]⟩, .int .i64 0] 140)
  have hb0 := (Below.refl w.heap.size w).alloc (Nat.le_refl _) (.cells #[.slice none 0 0, .string ⟨#[]⟩, .int .i64 0] 140)
  have he : Hid (grp (cz ([] ++ ku (n : Int))) = allL n) := Lib.hid (by
    have := grp_cz_good (all_chk n hn)
    rw [all_units] at this
    rw [List.nil_append, ku_nat]; exact this)
  have hn' : (n : Int) ≤ 500 := by omega
  have hn0 : (0 : Int) ≤ (n : Int) := by omega
  go_enter Try.func118, Try.ntmps118
  go_wp2_with fail
  refine (mkeep_any (n : Int) hm0 (by simp) hb0.size (by omega) (by omega)).mono ?_
  rintro e w1 ⟨rfl, ob, hm1, hf1⟩
  have hge := hm0.ge
  have hw1 := hb0.trans (hf1.below_ hb0.size (Nat.le_refl _) fun k hk => (hge k hk).1)
  have Hm1 := Lib.hid hm1
  clear hm1 hf1 hge hm0
  go_wp2_with fail
  refine (mdone_any Hm1.out (by simp [ku]; omega) hw1.size).mono ?_
  rintro e w2 ⟨v, ob2, rfl, ho, _, hf⟩
  have hge := Hm1.out.ge
  have hw2 := hw1.trans (hf.below_ hw1.size (Nat.le_refl _) fun k hk => (hge k hk).1)
  rw [he.out] at ho
  obtain ⟨A5, c5, rfl, hr⟩ := ho.rd (allL_small n)
  have Hr := Lib.hid hr
  clear ho hf hge hr
  go_wp2_with fail
  go_ret
  exact ⟨_, _, _, rfl, Hr.out, hw2⟩
theorem between_err (base : ByteArray) (l : List Rv) (A : Option Addr) (n c B : Nat) (i k : Int) (w : World) (h : RdR w B A n c l) (hB : B ≤ w.heap.size) (hbs : base.size ≤ 9223372036854775807) (he : txE base l ≠ 0) :
    Calls Try.prog 75 #[.string base, .slice A n c, .int .i64 i, .int .i64 k] w fun e w' => e = .returned (.tuple #[.slice none 0 0, .int .i64 (txE base l)]) ∧ Below w.heap.size w w' := by
  have hc := texts_any base l A n c B w h hB hbs
  have Hc := Lib.hid hc
  have hne : (txE base l != 0) = true := by simpa using he
  clear hc h he
  go_enter Try.func75, Try.ntmps75
  go_wp2_with fail
  refine Hc.out.mono ?_
  rintro e w1 ⟨A1, n1, c1, rfl, _, hb⟩
  go_wp2_with fail
  go_ret2
  exact ⟨rfl, hb⟩
theorem between_arg (base : ByteArray) (l : List Rv) (A : Option Addr) (n c B : Nat) (i k : Int) (w : World) (h : RdR w B A n c l) (hB : B ≤ w.heap.size) (hbs : base.size ≤ 9223372036854775807) (he : txE base l = 0) (hk : i < 0 ∨ (n : Int) < k ∨ k < i) :
    Calls Try.prog 75 #[.string base, .slice A n c, .int .i64 i, .int .i64 k] w fun e w' => e = .returned (.tuple #[.slice none 0 0, .int .i64 1]) ∧ Below w.heap.size w w' := by
  have hc := texts_any base l A n c B w h hB hbs
  rw [he] at hc
  have Hc := Lib.hid hc
  have hle := h.le
  clear hc h he
  rcases (show i < 0 ∨ (0 ≤ i ∧ (n : Int) < k) ∨ (0 ≤ i ∧ k ≤ (n : Int) ∧ k < i) by omega) with h1 | ⟨h1, h2⟩ | ⟨h1, h2, h3⟩
  all_goals
    clear hk
    go_enter Try.func75, Try.ntmps75
    go_wp2_with fail
    refine Hc.out.mono ?_
    rintro e w1 ⟨A1, n1, c1, rfl, _, hb⟩
    go_wp2_with fail
    go_ret2
    exact ⟨rfl, hb⟩
theorem between_same (base : ByteArray) (l : List Rv) (A : Option Addr) (B i : Nat) (w : World) (h : RdR w B A i i l) (hB : B ≤ w.heap.size) (he : txE base l = 0) (R : List Pt)
    (hR : btw (allL (txt base l i).size) ((l.drop i).take (i - i)) = R) :
    Calls Try.prog 75 #[.string base, .slice A i i, .int .i64 i, .int .i64 i] w fun e w' => ∃ A1 n1 c1, e = .returned (.tuple #[.slice A1 n1 c1, .int .i64 0]) ∧ RdP w' w'.heap.size A1 n1 c1 R ∧ Below w.heap.size w w' := by
  have hp := txE_parts he
  have hc := texts_any base l A i i B w h hB (by omega)
  rw [he] at hc
  have Hc := Lib.hid hc
  have hn : i = l.length := h.1
  have hcaps := h.caps
  have hkn' : (i : Int) ≤ (i : Int) := by omega
  have hik' : (i : Int) ≤ (i : Int) := by omega
  have hi0 : (0 : Int) ≤ (i : Int) := by omega
  have hin : (i : Int) < (i : Int) + 1 := by omega
  have hn64 : (i : Int) ≤ 64 := by omega
  have hnc : (i : Int) ≤ (i : Int) := by omega
  have hkc : (i : Int) ≤ (i : Int) := by omega
  have hat := txs_at l base i (by omega)
  have hlen := txs_len l base
  have hS5 := txt_size l base i hp.1
  have hdr := txr_take (l.drop i) (txt base l i) (i - i) (txr_drop l base i hp.2.2)
  obtain ⟨S, hS⟩ : ∃ S, txt base l i = S := ⟨_, rfl⟩
  rw [hS] at hat hS5 hdr hR
  have Hda := Lib.hid (do_all hS5)
  have Hat := Lib.hid hat
  have Hlen := Lib.hid (show (txs base l).length = i + 1 by omega)
  have Hdr := Lib.hid hdr
  have HR := Lib.hid hR
  have Hn := Lib.hid hn
  have hR0 : allL (S.size : Int) = R := by have h1 := HR.out; rw [Nat.sub_self, List.take_zero] at h1; exact h1
  have HR0 := Lib.hid hR0
  clear hc h he hp hat hlen hS hn hdr hR hR0
  go_enter Try.func75, Try.ntmps75
  go_wp2_with fail
  refine Hc.out.mono ?_
  rintro e w1 ⟨A1, n1, c1, rfl, hown, hb⟩
  have ho := hown trivial
  unfold OwnS at ho
  rw [Hlen.out] at ho
  have hnn : n1 = i + 1 ∧ ∃ g, A1 = some ⟨g, 0, none⟩ := by
    rcases ho.2 with ⟨hv, h0⟩ | ⟨g', cap, cur, hv, _⟩
    · omega
    · injection hv with h1 h2 h3; exact ⟨h2, g', h1⟩
  obtain ⟨rfl, g, rfl⟩ := hnn
  have hcl : w1.cell? ⟨g, i, none⟩ = some (.string S) := by
    rw [World.ownsRow.cellAt ho i (by omega), List.getElem?_map, Hat.out]
    rfl
  clear hown ho
  go_wp2_with fail
  refine (idle_any S.size hS5 _).mono ?_
  rintro e w2 ⟨A2, n2, c2, rfl, hr2, hb2⟩
  have hw2 := hb.trans (hb2.mono hb.size)
  have Hr2 := Lib.hid hr2
  clear hr2 hb2 hb hcl
  go_wp2_with fail
  go_loopw [11, 12, 14, 48] (fun ev ov pv iv wr => iv = .int .i64 0 ∧ ov = .slice A2 n2 c2 ∧ wr = w2) (fun _ _ _ i _ => 0)
  case atStart => exact ⟨rfl, rfl, rfl⟩
  case round =>
    obtain ⟨rfl, rfl, rfl⟩ := hrel
    go_wp2_with fail
    go_ret2
    exact ⟨_, _, _, rfl, by rw [← HR0.out]; exact Hr2.out, hw2⟩
theorem between_more (base : ByteArray) (l : List Rv) (A : Option Addr) (n c B i k : Nat) (w : World) (h : RdR w B A n c l) (hB : B ≤ w.heap.size) (he : txE base l = 0) (hik : i ≤ k) (hkn : k ≤ n) (R : List Pt)
    (hR : btw (allL (txt base l i).size) ((l.drop i).take (k - i)) = R) (hci : c ≠ i) :
    Calls Try.prog 75 #[.string base, .slice A n c, .int .i64 i, .int .i64 k] w fun e w' => ∃ A1 n1 c1, e = .returned (.tuple #[.slice A1 n1 c1, .int .i64 0]) ∧ RdP w' w'.heap.size A1 n1 c1 R ∧ Below w.heap.size w w' := by
  have hp := txE_parts he
  have hc := texts_any base l A n c B w h hB (by omega)
  rw [he] at hc
  have Hc := Lib.hid hc
  have hn : n = l.length := h.1
  have hcaps := h.caps
  have hkn' : (k : Int) ≤ (n : Int) := by omega
  have hik' : (i : Int) ≤ (k : Int) := by omega
  have hi0 : (0 : Int) ≤ (i : Int) := by omega
  have hin : (i : Int) < (n : Int) + 1 := by omega
  have hn64 : (n : Int) ≤ 64 := by omega
  have hnc : (n : Int) ≤ (c : Int) := by omega
  have hkc : (k : Int) ≤ (c : Int) := by omega
  have hat := txs_at l base i (by omega)
  have hlen := txs_len l base
  have hS5 := txt_size l base i hp.1
  have hdr := txr_take (l.drop i) (txt base l i) (k - i) (txr_drop l base i hp.2.2)
  obtain ⟨S, hS⟩ : ∃ S, txt base l i = S := ⟨_, rfl⟩
  rw [hS] at hat hS5 hdr hR
  have Hda := Lib.hid (do_all hS5)
  have Hat := Lib.hid hat
  have Hlen := Lib.hid (show (txs base l).length = n + 1 by omega)
  have Hdr := Lib.hid hdr
  have HR := Lib.hid hR
  have Hn := Lib.hid hn
  obtain ⟨A', hA'⟩ : ∃ A', Option.map (fun x : Addr => x.add (i * 3)) A = A' := ⟨_, rfl⟩
  obtain ⟨N, hN⟩ : ∃ N, k - i = N := ⟨_, rfl⟩
  have hdrop : RdR w B A' N (c - i) ((l.drop i).take N) := (h.drop i (by omega) A' (fun _ b o e => by
    rw [← hA', e]
    simp only [Option.map_some, Addr.add]
    by_cases h0 : i * 3 = 0
    · simp [h0]
    · simp [h0])).take N (by omega)
  rw [hN] at HR Hdr
  have hN64 : (N : Int) ≤ 64 := by omega
  have hNk : (k : Int) - (i : Int) = (N : Int) := by omega
  have Hd := Lib.hid hdrop
  have hcif : (c = i) = False := by simp; omega
  clear hc h he hp hat hlen hS hn hdr hR hci hdrop
  go_enter Try.func75, Try.ntmps75
  go_wp2_with fail
  refine Hc.out.mono ?_
  rintro e w1 ⟨A1, n1, c1, rfl, hown, hb⟩
  have ho := hown trivial
  unfold OwnS at ho
  rw [Hlen.out] at ho
  have hnn : n1 = n + 1 ∧ ∃ g, A1 = some ⟨g, 0, none⟩ := by
    rcases ho.2 with ⟨hv, h0⟩ | ⟨g', cap, cur, hv, _⟩
    · omega
    · injection hv with h1 h2 h3; exact ⟨h2, g', h1⟩
  obtain ⟨rfl, g, rfl⟩ := hnn
  have hcl : w1.cell? ⟨g, i, none⟩ = some (.string S) := by
    rw [World.ownsRow.cellAt ho i (by omega), List.getElem?_map, Hat.out]
    rfl
  clear hown ho
  go_wp2_with fail
  refine (idle_any S.size hS5 _).mono ?_
  rintro e w2 ⟨A2, n2, c2, rfl, hr2, hb2⟩
  have hw2 := hb.trans (hb2.mono hb.size)
  have Hr2 := Lib.hid hr2
  clear hr2 hb2 hb hcl
  go_wp2_with fail
  go_loopw [11, 12, 14, 48] (fun ev ov pv iv wr => ∃ (j : Nat) (A1 : Option Addr) (n1 c1 : Nat) (o : List Pt), j ≤ N ∧ iv = .int .i64 j ∧ ov = .slice A1 n1 c1 ∧ Hid (RdP wr wr.heap.size A1 n1 c1 o) ∧ Hid (doE o S = 0 ∧ txr (doS o S) (((l.drop i).take N).drop j) = 0 ∧ btw o (((l.drop i).take N).drop j) = R) ∧ Below w.heap.size w wr) (fun _ _ _ i _ => N - (intOf i).toNat)
  case atStart => exact ⟨0, _, _, _, _, by omega, rfl, rfl, Hr2, Lib.hid ⟨Hda.out.1, by rw [Hda.out.2, List.drop_zero]; exact Hdr.out, by rw [List.drop_zero]; exact HR.out⟩, hw2⟩
  case round =>
    obtain ⟨j, A3, n3, c3, t, hj, rfl, rfl, hrt, hst, hbwr⟩ := hrel
    by_cases hlt : j < N
    · have hkl : j < ((l.drop i).take N).length := by have := Hd.out.1; omega
      obtain ⟨b4, o4, A4, n4, c4, rfl, hb4, d0, d1, d2, hrd⟩ := (Hd.out.below (hbwr.mono hB)).at_ j hlt
      have hdr : ((l.drop i).take N).drop j = ((l.drop i).take N)[j] :: ((l.drop i).take N).drop (j + 1) := List.drop_eq_getElem_cons hkl
      rw [hdr] at hst
      have hstep := Lib.hid (btw_step hst.out.1 hst.out.2.1)
      obtain ⟨r, hr⟩ : ∃ r, r = ((l.drop i).take N)[j] := ⟨_, rfl⟩
      rw [← hr] at hst hstep d0 d1 hrd
      clear hr hdr
      obtain ⟨ra, rb, d⟩ := r
      simp only at d0 d1 d2 hrd hstep
      have hj0 : (0 : Int) ≤ (j : Int) := by omega
      have hjn : (j : Int) < (N : Int) := by omega
      have hgl : b4 < wr.heap.size := by have := hbwr.size; omega
      have hwb := hbwr.size
      have hw4 := hbwr.alloc hbwr.size (.cells #[.int .i64 ra, .int .i64 rb, .slice A4 n4 c4] 27)
      have hrd' := (hrd.more (show B ≤ wr.heap.size by omega)).stepA (.cells #[.int .i64 ra, .int .i64 rb, .slice A4 n4 c4] 27)
      have hrt' := hrt.out.stepA (.cells #[.int .i64 ra, .int .i64 rb, .slice A4 n4 c4] 27)
      have hcall := comp_rdn t d A3 A4 n3 n4 c3 c4 _ hrt' hrd' 0 _ hstep.out.1 rfl
      have Hcall := Lib.hid hcall
      have Hnx := Lib.hid (show doE (compL t d) S = 0 ∧ txr (doS (compL t d) S) (((l.drop i).take N).drop (j + 1)) = 0 ∧ btw (compL t d) (((l.drop i).take N).drop (j + 1)) = R from ⟨hstep.out.2.1, hstep.out.2.2, hst.out.2.2⟩)
      clear hrd hrd' hrt' hcall hst hstep
      go_wp2_with fail
      refine Hcall.out.mono ?_
      rintro e w5 ⟨A5, n5, c5, rfl, hr5, hb5⟩
      have hw5 := hw4.trans (hb5.mono hw4.size)
      have Hr5 := Lib.hid hr5
      clear hr5 hb5
      go_wp2_with fail
      go_roundw
      case rel => exact ⟨j + 1, _, _, _, _, by omega, by go_num, rfl, Hr5, Hnx, hw5⟩
      case measure => simp [intOf]; omega
    · have hjn : decide (j < N) = false := by simpa using hlt
      obtain rfl : j = N := by omega
      have h1 := hst.out.2.2
      rw [List.drop_eq_nil_of_le (by have := Hd.out.1; omega)] at h1
      have hRt : t = R := h1
      subst hRt
      clear hst h1
      go_wp2_with fail
      go_ret2
      exact ⟨_, _, _, rfl, hrt.out, hbwr⟩
theorem between_good (base : ByteArray) (l : List Rv) (A : Option Addr) (n c B i k : Nat) (w : World) (h : RdR w B A n c l) (hB : B ≤ w.heap.size) (he : txE base l = 0) (hik : i ≤ k) (hkn : k ≤ n) (R : List Pt)
    (hR : btw (allL (txt base l i).size) ((l.drop i).take (k - i)) = R) :
    Calls Try.prog 75 #[.string base, .slice A n c, .int .i64 i, .int .i64 k] w fun e w' => ∃ A1 n1 c1, e = .returned (.tuple #[.slice A1 n1 c1, .int .i64 0]) ∧ RdP w' w'.heap.size A1 n1 c1 R ∧ Below w.heap.size w w' := by
  by_cases hci : c = i
  · have := h.caps
    obtain rfl : k = i := by omega
    obtain rfl : n = k := by omega
    subst hci
    exact between_same base l A B _ w h hB he R hR
  · exact between_more base l A n c B i k w h hB he hik hkn R hR hci
end Go.Proofs.Ytcdielgpmnhmjaa
