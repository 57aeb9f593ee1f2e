/- walk of scrivkeep.ShopStays. -/
import Derived.Test.YtfncpcmaplhojaaMShopStays1
import Derived.Test.YtfncpcmaplhojaaK16
import Derived.Test.YtfncpcmaplhojaaK31
namespace Go.Proofs.Ytfncpcmaplhojaa
open Go.ChangeShapes Go.WideShapes Go.RowKit
set_option linter.unusedVariables false
set_option linter.unusedSimpArgs false
set_option maxRecDepth 100000
set_option maxHeartbeats 4000000

/-- where the move stands behind so many steps -/
def StayJ (s : Sh) (m : Option Mv) (g fl σ : Nat) : Prop :=
  (m = some ((fl : Int), -1, false) ∧ g = 1 ∧ σ = 0) ∨
  (∃ c : Nat, ∃ wh, m = some ((fl : Int), (c : Int), wh) ∧ g = 1 ∧ c ≤ 64 ∧ σ = (if wh = true then 2 else 1) + c) ∨
  (m = none ∧ g = 2 ∧ s.log.base = (fl : Int) ∧ ((s.old = true ∧ σ ≤ 67) ∨ (s.old = false ∧ σ ≤ 68)))
def StayK (s : Sh) (m : Option Mv) (g fl σ : Nat) : Prop := StayJ s m g fl σ ∧ s.log.base ≤ (fl : Int)
theorem StayJ.step {s s' : Sh} {m m' : Option Mv} {g g' fl σ : Nat} (h : StayJ s m g fl σ) (hs : StepB s m g s' m' g') : StayJ s' m' g' fl (σ + 1) ∧ σ + 1 ≤ 69 := by
  rcases hs with ⟨rfl, a1, rfl, a2, e, _, _, rfl⟩ | ⟨f, cp, wh, rfl, e, _, _, _, rfl, hx⟩ | ⟨f, cp, k, rfl, c1, c2, e1, e2, rfl, a1, e3, e4, e5, _, _, _, rfl⟩
  · rcases h with ⟨h, _⟩ | ⟨c, wh, h, _⟩ | ⟨_, hg, hb, hx⟩
    · cases h
    · cases h
    · have h67 : σ ≤ 67 := by
        rcases hx with ⟨_, h⟩ | ⟨h, _⟩
        · exact h
        · rw [a1] at h; cases h
      exact ⟨.inr (.inr ⟨rfl, hg, by rw [e]; exact hb, .inr ⟨a2, by omega⟩⟩), by omega⟩
  · rcases h with ⟨h, hg, hs⟩ | ⟨c, wh', h, hg, hc, hs⟩ | ⟨h, _⟩
    · injection h with h
      injection h with h1 h2
      injection h2 with h2 h3
      subst h1 h2 h3 hs
      rcases hx with ⟨_, _, rfl⟩ | ⟨h, _⟩ | ⟨h, _⟩
      · exact ⟨.inr (.inl ⟨0, false, rfl, hg, by omega, by simp⟩), by omega⟩
      · omega
      · omega
    · injection h with h
      injection h with h1 h2
      injection h2 with h2 h3
      subst h1 h2 h3
      rcases hx with ⟨h, _⟩ | ⟨_, h1, rfl, rfl⟩ | ⟨_, h1, rfl, rfl⟩
      · omega
      · simp at hs
        exact ⟨.inr (.inl ⟨c + 1, false, by rw [show ((c + 1 : Nat) : Int) = (c : Int) + 1 by omega], hg, by omega, by simp; omega⟩), by omega⟩
      · simp at hs
        exact ⟨.inr (.inl ⟨c, true, rfl, hg, by omega, by simp; omega⟩), by omega⟩
    · cases h
  · rcases h with ⟨h, hg, hs⟩ | ⟨c, wh', h, hg, hc, hs⟩ | ⟨h, _⟩
    · injection h with h
      injection h with h1 h2
      injection h2 with h2 h3
      cases h3
    · injection h with h
      injection h with h1 h2
      injection h2 with h2 h3
      subst h1 h2 h3
      simp at hs
      exact ⟨.inr (.inr ⟨rfl, by omega, e3, .inl ⟨a1, by omega⟩⟩), by omega⟩
    · cases h
theorem addG_old (s : Sh) (m : Option Mv) (r : Rv) : (addG s m r).old = s.old := by
  unfold addG
  split
  · split <;> rfl
  · rfl
theorem addG_base (s : Sh) (m : Option Mv) (r : Rv) : (addG s m r).log.base = s.log.base := by
  unfold addG
  split
  · split <;> rfl
  · rfl
theorem StayJ.add {s : Sh} {m : Option Mv} {g fl σ : Nat} (h : StayJ s m g fl σ) (r : Rv) : StayJ (addG s m r) m g fl σ := by
  unfold StayJ
  rw [addG_old, addG_base]
  exact h
theorem StayK.step {s s' : Sh} {m m' : Option Mv} {g g' fl σ : Nat} (h : StayK s m g fl σ) (hs : StepB s m g s' m' g') : StayK s' m' g' fl (σ + 1) ∧ σ + 1 ≤ 69 := by
  obtain ⟨a, b⟩ := h.1.step hs
  refine ⟨⟨a, ?_⟩, b⟩
  rcases hs with ⟨_, _, _, _, e, _⟩ | ⟨f, cp, wh, _, e, _⟩ | ⟨f, cp, k, rfl, _, _, e1, e2, _, _, e3, _⟩
  · rw [e]; exact h.2
  · rw [e]; exact h.2
  · rw [e3]
    rcases h.1 with ⟨h, _⟩ | ⟨c, wh', h, _⟩ | ⟨h, _⟩
    · injection h with h; injection h with h1 _; omega
    · injection h with h; injection h with h1 _; omega
    · cases h
theorem StayK.add {s : Sh} {m : Option Mv} {g fl σ : Nat} (h : StayK s m g fl σ) (r : Rv) : StayK (addG s m r) m g fl σ := ⟨h.1.add r, by rw [addG_base]; exact h.2⟩
theorem addG_mu (s : Sh) (m : Option Mv) (r : Rv) : muS (addG s m r) m = muS s m := by
  cases m with
  | none => simp only [muS, addG_old]
  | some v => rfl
theorem addG_len (s : Sh) (m : Option Mv) (r : Rv) (h : nextE s.log s.text.size r = 0) : (addG s m r).log.revs.length = s.log.revs.length + 1 := by
  have e1 : (addG s m r).log = addL s.log r := by unfold addG; rw [if_pos h]; split <;> rfl
  rw [e1]; simp [addL]
theorem ownS_at {w : World} {B n c : Nat} {A : Option Addr} {T : List ByteArray} (h : OwnS w B (.slice A n c) T) (k : Nat) (u : ByteArray) (hk : T[k]? = some u) : n = T.length ∧ ∃ b, A = some ⟨b, 0, none⟩ ∧ b < w.heap.size ∧ w.cell? ⟨b, k, none⟩ = some (.string u) := by
  obtain ⟨A', c', e⟩ := h.form_ rfl
  injection e with e1 e2 e3
  subst e1 e2 e3
  have hkl := (List.getElem?_eq_some_iff.1 hk).1
  obtain ⟨b, cc, e, _⟩ := World.ownsRow.form h (by omega)
  injection e with e1 e2
  subst e1
  refine ⟨rfl, b, rfl, (World.ownsRow.lt h b rfl).2, ?_⟩
  rw [World.ownsRow.cellAt h k (by omega), List.getElem?_map, hk]
  rfl
theorem walk_ShopStays (v : Value) (l : List Rv) (i0 : Int) (wi0 : (Lit.int .i64 i0).wf = true) (v2 : Value) (l2 : List Rv) (w : World) (h : IsRevs w v l) (h2 : IsRevs w v2 l2) :
    Calls Try.prog 13 #[v, .int .i64 i0, v2] w fun e w' => e = .returned (.bool true) ∧ Below w.heap.size w w' := by
  obtain ⟨A, n, c, rfl, hrd⟩ := h
  obtain ⟨A2, n2, c2, rfl, hrd2⟩ := h2
  have hn2 : (n2 : Int) ≤ 9223372036854775807 := by have := hrd2.le; omega
  obtain ⟨B, hB⟩ : ∃ B, w.heap.size = B := ⟨_, rfl⟩
  have HBw := Lib.hid hB
  have HB : Hid (B ≤ w.heap.size) := Lib.hid (by omega)
  have HW : Hid (Below B w w) := Lib.hid (Below.refl _ _)
  rw [hB] at hrd hrd2
  have HL := Lib.hid hrd
  have HL2 := Lib.hid hrd2
  have HN2 := Lib.hid hrd2.1
  clear hB hrd hrd2
  go_enter Try.func13, Try.ntmps13
  have hc_ := first_any ⟨#[97]⟩ (by decide) w
  have Hc_ := Lib.hid hc_
  clear hc_
  go_wp2_with fail
  refine Hc_.out.mono ?_
  rintro e w1 ⟨Af, rfl, hrf, hb1⟩
  clear Hc_
  have HL_ := Lib.hid (HL.out.below (hb1.mono HB.out))
  clear HL
  have HL := HL_
  clear HL_
  have HL2_ := Lib.hid (HL2.out.below (hb1.mono HB.out))
  clear HL2
  have HL2 := HL2_
  clear HL2_
  have HW_ := Lib.hid (HW.out.trans (hb1.mono HB.out))
  clear HW
  have HW := HW_
  clear HW_
  have HB_ : Hid (B ≤ w1.heap.size) := Lib.hid (Nat.le_trans HB.out hb1.size)
  clear HB
  have HB := HB_
  clear HB_ hb1
  have hal := (Below.refl w1.heap.size w1).alloc (Nat.le_refl _) (.cells #[.int .i64 1, .int .i64 1, .slice Af 1 1] 29)
  have hfi := filled_B [(1, 1, [(2, 0, ⟨#[97]⟩)])] (some ⟨w1.heap.size, 0, none⟩) 1 1 (w1.alloc (.cells #[.int .i64 1, .int .i64 1, .slice Af 1 1] 29)) (RdR.built1 w1 1 1 Af 1 1 [(2, 0, ⟨#[97]⟩)] hrf)
  clear hrf
  have HL_ := Lib.hid (HL.out.below (hal.mono HB.out))
  clear HL
  have HL := HL_
  clear HL_
  have HL2_ := Lib.hid (HL2.out.below (hal.mono HB.out))
  clear HL2
  have HL2 := HL2_
  clear HL2_
  have HW_ := Lib.hid (HW.out.trans (hal.mono HB.out))
  clear HW
  have HW := HW_
  clear HW_
  have HB_ : Hid (B ≤ (w1.alloc (.cells #[.int .i64 1, .int .i64 1, .slice Af 1 1] 29)).heap.size) := Lib.hid (Nat.le_trans HB.out hal.size)
  clear HB
  have HB := HB_
  clear HB_ hal
  have HBo := HB
  have hc_ := hfi
  have Hc_ := Lib.hid hc_
  clear hc_
  go_wp2_with fail
  refine Hc_.out.mono ?_
  rintro e w2 ⟨q0, rfl, hm, hb2⟩
  clear Hc_
  have HL_ := Lib.hid (HL.out.below (hb2.mono HB.out))
  clear HL
  have HL := HL_
  clear HL_
  have HL2_ := Lib.hid (HL2.out.below (hb2.mono HB.out))
  clear HL2
  have HL2 := HL2_
  clear HL2_
  have HW_ := Lib.hid (HW.out.trans (hb2.mono HB.out))
  clear HW
  have HW := HW_
  clear HW_
  have HB_ : Hid (B ≤ w2.heap.size) := Lib.hid (Nat.le_trans HB.out hb2.size)
  clear HB
  have HB := HB_
  clear HB_ hb2
  have hm := hm.base HBo.out
  have hfa : fillS shN [(1, 1, [(2, 0, ⟨#[97]⟩)])] = addS shN (1, 1, [(2, 0, ⟨#[97]⟩)]) := by simp only [fillS]; rw [if_pos fill_a]
  rw [hfa] at hm
  have e1 : (addS shN (1, 1, [(2, 0, ⟨#[97]⟩)])).log.base = 0 := rfl
  have e2 : (addS shN (1, 1, [(2, 0, ⟨#[97]⟩)])).log.revs.length = 1 := rfl
  have e3 : (addS shN (1, 1, [(2, 0, ⟨#[97]⟩)])).old = false := rfl
  obtain ⟨sa, hsa⟩ : ∃ sa, addS shN (1, 1, [(2, 0, ⟨#[97]⟩)]) = sa := ⟨_, rfl⟩
  rw [hsa] at hm e1 e2 e3
  have E1 := Lib.hid e1
  have E2 := Lib.hid e2
  have E3 := Lib.hid e3
  clear hfi hfa hsa HBo e1 e2 e3
  have H0 := Lib.hid hm
  clear hm
  have hc_ := shead_B q0 sa none B 1 w2 H0.out
  rw [E1.out, E2.out] at hc_
  rw [show (0 : Int) + ((1 : Nat) : Int) = 1 from rfl] at hc_
  have Hc_ := Lib.hid hc_
  clear hc_
  go_wp2_with fail
  refine Hc_.out.mono ?_
  rintro e w3 ⟨rfl, hb3⟩
  clear Hc_
  have HL_ := Lib.hid (HL.out.below (hb3.mono HB.out))
  clear HL
  have HL := HL_
  clear HL_
  have HL2_ := Lib.hid (HL2.out.below (hb3.mono HB.out))
  clear HL2
  have HL2 := HL2_
  clear HL2_
  have H0_ := Lib.hid (H0.out.below hb3)
  clear H0
  have H0 := H0_
  clear H0_
  have HW_ := Lib.hid (HW.out.trans (hb3.mono HB.out))
  clear HW
  have HW := HW_
  clear HW_
  have HB_ : Hid (B ≤ w3.heap.size) := Lib.hid (Nat.le_trans HB.out hb3.size)
  clear HB
  have HB := HB_
  clear HB_ hb3
  have hc_ := skeep_B q0 sa B 1 1 1 w3 H0.out HB.out E3.out (by rw [E1.out]; rfl) (by rw [E2.out]; exact Nat.le_refl _)
  have Hc_ := Lib.hid hc_
  clear hc_
  go_wp2_with fail
  refine Hc_.out.mono ?_
  rintro e w4 ⟨rfl, hm, hb⟩
  clear Hc_
  have HL_ := Lib.hid (HL.out.below hb)
  clear HL
  have HL := HL_
  clear HL_
  have HL2_ := Lib.hid (HL2.out.below hb)
  clear HL2
  have HL2 := HL2_
  clear HL2_
  have HW_ := Lib.hid (HW.out.trans hb)
  clear HW
  have HW := HW_
  clear HW_
  have HB_ : Hid (B ≤ w4.heap.size) := Lib.hid (Nat.le_trans HB.out hb.size)
  clear HB
  have HB := HB_
  clear HB_ hb
  clear H0
  have H0 := Lib.hid hm
  clear hm
  have hc_ := skeepbusy_B q0 sa _ B 1 1 w4 H0.out (.inl (by simp))
  have Hc_ := Lib.hid hc_
  clear hc_
  go_wp2_with fail
  refine Hc_.out.mono ?_
  rintro e w5 ⟨rfl, hb5⟩
  clear Hc_
  have HL_ := Lib.hid (HL.out.below (hb5.mono HB.out))
  clear HL
  have HL := HL_
  clear HL_
  have HL2_ := Lib.hid (HL2.out.below (hb5.mono HB.out))
  clear HL2
  have HL2 := HL2_
  clear HL2_
  have H0_ := Lib.hid (H0.out.below hb5)
  clear H0
  have H0 := H0_
  clear H0_
  have HW_ := Lib.hid (HW.out.trans (hb5.mono HB.out))
  clear HW
  have HW := HW_
  clear HW_
  have HB_ : Hid (B ≤ w5.heap.size) := Lib.hid (Nat.le_trans HB.out hb5.size)
  clear HB
  have HB := HB_
  clear HB_ hb5
  have hc_ := sstep_B q0 sa _ B 1 w5 H0.out HB.out (by decide) (.inl (by simp))
  have Hc_ := Lib.hid hc_
  clear hc_
  go_wp2_with fail
  refine Hc_.out.mono ?_
  rintro e w6 ⟨rfl, sb, mb, gb, hm, hb, -⟩
  clear Hc_
  have HL_ := Lib.hid (HL.out.below hb)
  clear HL
  have HL := HL_
  clear HL_
  have HL2_ := Lib.hid (HL2.out.below hb)
  clear HL2
  have HL2 := HL2_
  clear HL2_
  have HW_ := Lib.hid (HW.out.trans hb)
  clear HW
  have HW := HW_
  clear HW_
  have HB_ : Hid (B ≤ w6.heap.size) := Lib.hid (Nat.le_trans HB.out hb.size)
  clear HB
  have HB := HB_
  clear HB_ hb
  clear H0
  have H0 := Lib.hid hm
  clear hm
  clear H0
  clear E1 E2 E3
  have HBo := HB
  have hc_ := filled_B l A n c w6 (HL.out.more HB.out)
  have Hc_ := Lib.hid hc_
  clear hc_
  go_wp2_with fail
  refine Hc_.out.mono ?_
  rintro e w7 ⟨q, rfl, hm, hb7⟩
  clear Hc_
  have HL_ := Lib.hid (HL.out.below (hb7.mono HB.out))
  clear HL
  have HL := HL_
  clear HL_
  have HL2_ := Lib.hid (HL2.out.below (hb7.mono HB.out))
  clear HL2
  have HL2 := HL2_
  clear HL2_
  have HW_ := Lib.hid (HW.out.trans (hb7.mono HB.out))
  clear HW
  have HW := HW_
  clear HW_
  have HB_ : Hid (B ≤ w7.heap.size) := Lib.hid (Nat.le_trans HB.out hb7.size)
  clear HB
  have HB := HB_
  clear HB_ hb7
  have hm := hm.base HBo.out
  have hS1 := fillS_old l shN
  have hS2 := base_fill l shN
  have hS4 := hm.hg.len
  obtain ⟨s0, hs0⟩ : ∃ s0, fillS shN l = s0 := ⟨_, rfl⟩
  rw [hs0] at hm hS1 hS2 hS4
  obtain ⟨N, hN⟩ : ∃ N, s0.log.revs.length = N := ⟨_, rfl⟩
  rw [hN] at hS4
  have hN1 : N ≤ 64 := hS4
  have HOld : Hid (s0.old = false) := Lib.hid hS1
  have HBase : Hid (s0.log.base = 0) := Lib.hid hS2
  have HN := Lib.hid hN
  have hN0 : (0 : Int) ≤ (N : Int) := by omega
  have HM := Lib.hid hm
  clear hm hS1 hS2 hS4 hs0 hN HL HBo
  have hc_ := shead_B q s0 none B 1 w7 HM.out
  rw [HBase.out, HN.out, Int.zero_add] at hc_
  have Hc_ := Lib.hid hc_
  clear hc_
  go_wp2_with fail
  refine Hc_.out.mono ?_
  rintro e w8 ⟨rfl, hb8⟩
  clear Hc_
  have HL2_ := Lib.hid (HL2.out.below (hb8.mono HB.out))
  clear HL2
  have HL2 := HL2_
  clear HL2_
  have HM_ := Lib.hid (HM.out.below hb8)
  clear HM
  have HM := HM_
  clear HM_
  have HW_ := Lib.hid (HW.out.trans (hb8.mono HB.out))
  clear HW
  have HW := HW_
  clear HW_
  have HB_ : Hid (B ≤ w8.heap.size) := Lib.hid (Nat.le_trans HB.out hb8.size)
  clear HB
  have HB := HB_
  clear HB_ hb8
  have hc_ := within_any i0 (N + 1) w8 (by omega) (by omega)
  have hf1 := wi_lt i0 (N + 1) (by omega)
  obtain ⟨fl, hfl⟩ : ∃ fl, wi i0 (N + 1) = fl := ⟨_, rfl⟩
  rw [hfl] at hc_ hf1
  rw [show ((N + 1 : Nat) : Int) = (N : Int) + 1 by omega] at hc_
  have hf2 : fl ≤ N := by omega
  have Hc_ := Lib.hid hc_
  clear hc_ hf1 hfl
  go_wp2_with fail
  refine Hc_.out.mono ?_
  rintro e w' ⟨rfl, rfl⟩
  clear Hc_
  have hf0 : (0 : Int) ≤ (fl : Int) := by omega
  have hc_ := shead_B q s0 none B 1 w8 HM.out
  rw [HBase.out, HN.out, Int.zero_add] at hc_
  have Hc_ := Lib.hid hc_
  clear hc_
  go_wp2_with fail
  refine Hc_.out.mono ?_
  rintro e w9 ⟨rfl, hb9⟩
  clear Hc_
  have HL2_ := Lib.hid (HL2.out.below (hb9.mono HB.out))
  clear HL2
  have HL2 := HL2_
  clear HL2_
  have HM_ := Lib.hid (HM.out.below hb9)
  clear HM
  have HM := HM_
  clear HM_
  have HW_ := Lib.hid (HW.out.trans (hb9.mono HB.out))
  clear HW
  have HW := HW_
  clear HW_
  have HB_ : Hid (B ≤ w9.heap.size) := Lib.hid (Nat.le_trans HB.out hb9.size)
  clear HB
  have HB := HB_
  clear HB_ hb9
  have hst := StM.start HM.out
  clear HM
  have HM := Lib.hid hst
  clear hst
  go_upto_region 8 with (fail)
  go_loopw [8, 9, 10, 11, 55] (fun tv rv xv ev iv wr => ∃ (k nt ct : Nat) (At : Option Addr) (T : List ByteArray), k ≤ N + 1 ∧ iv = .int .i64 k ∧ tv = .slice At nt ct ∧ Hid (StM wr B q s0 none 1 (.slice At nt ct) T) ∧ Hid (T.length = k ∧ ∀ i, i < k → T[i]? = some (txt s0.log.text s0.log.revs i)) ∧ Hid (RdR wr B A2 n2 c2 l2) ∧ Hid (Below B w wr) ∧ Hid (B ≤ wr.heap.size)) (fun _ _ _ _ iv _ => N + 1 - (intOf iv).toNat)
  case atStart => exact ⟨0, 0, 0, none, [], by omega, rfl, rfl, HM, Lib.hid ⟨rfl, fun i hi => absurd hi (by omega)⟩, HL2, HW, HB⟩
  case round =>
    clear HM HL2 HW HB
    obtain ⟨k, nt, ct, At, T, hk, rfl, rfl, HM, HT, HL2, HW, HB⟩ := hrel
    by_cases hlt : k < N + 1
    · skip
      have hk0 : (0 : Int) ≤ (k : Int) := by omega
      have hkN : (k : Int) < (N : Int) + 1 := by omega
      obtain ⟨TX, hTX⟩ : ∃ TX, txt s0.log.text s0.log.revs k = TX := ⟨_, rfl⟩
      have HTX := Lib.hid hTX
      clear hTX
      have hc_ := stext_B q s0 none B 1 (k : Int) k wr HM.out.sh (by rw [HBase.out]; omega) (by rw [HN.out]; omega)
      rw [HTX.out] at hc_
      have Hc_ := Lib.hid hc_
      clear hc_
      go_wp2_with fail
      refine Hc_.out.mono ?_
      rintro e w10 ⟨rfl, hb10⟩
      clear Hc_
      have HM_ := Lib.hid (HM.out.below hb10)
      clear HM
      have HM := HM_
      clear HM_
      have HL2_ := Lib.hid (HL2.out.below (hb10.mono HB.out))
      clear HL2
      have HL2 := HL2_
      clear HL2_
      have HW_ := Lib.hid (HW.out.trans (hb10.mono HB.out))
      clear HW
      have HW := HW_
      clear HW_
      have HB_ : Hid (B ≤ w10.heap.size) := Lib.hid (Nat.le_trans HB.out hb10.size)
      clear HB
      have HB := HB_
      clear HB_ hb10
      have hlen : T.length ≤ 100000000 := by rw [HT.out.1]; omega
      have Hlen := Lib.hid hlen
      clear hlen
      go_wp2_with (first | (at_builtin; refine wpList_app_strF w10 rfl (.tmp 66) (.tmp 68) rfl B (.slice At nt ct) T rfl HM.out.own TX 1 rfl Hlen.out HB.out ?_; intro v9 w9 g1 g2 g3 g4))
      obtain ⟨A9, c9, e9⟩ := g1.form_ rfl
      subst e9
      have HM9 := Lib.hid (HM.out.app g1 g3 g4)
      have HT9 : Hid ((T ++ [TX]).length = k + 1 ∧ ∀ i, i < k + 1 → (T ++ [TX])[i]? = some (txt s0.log.text s0.log.revs i)) := Lib.hid (by
        obtain ⟨t1, t2⟩ := HT.out
        refine ⟨by rw [List.length_append, t1]; rfl, fun i hi => ?_⟩
        by_cases hik : i = k
        · subst hik
          rw [List.getElem?_append_right (by omega), t1, Nat.sub_self, HTX.out]
          rfl
        · rw [List.getElem?_append_left (by omega)]
          exact t2 i (by omega))
      have HL9 := Lib.hid (HL2.out.below g2)
      have HW9 := Lib.hid (HW.out.trans g2)
      have HB9 : Hid (B ≤ w9.heap.size) := Lib.hid (Nat.le_trans HB.out g2.size)
      clear HM HT HL2 HW HB g1 g2 g3 g4
      go_roundw
      case rel => exact ⟨k + 1, _, c9, A9, T ++ [TX], by omega, by go_num, rfl, HM9, HT9, HL9, HW9, HB9⟩
      case measure => simp [intOf]; omega
    · skip
      obtain rfl : k = N + 1 := by omega
      have hst : StT s0 T := ⟨0, HBase.out, by rw [HT.out.1, HN.out]; omega, fun i hi => by rw [Nat.zero_add]; exact HT.out.2 i (by rw [HN.out] at hi; omega)⟩
      have HT' := Lib.hid hst
      clear hst HT hlt hk
      have hc_ := HM.out.keep HB.out HOld.out (fl : Int) fl (by rw [HBase.out]; omega) (by rw [HN.out]; exact hf2)
      have Hc_ := Lib.hid hc_
      clear hc_
      go_wp2_with fail
      refine Hc_.out.mono ?_
      rintro e w10 ⟨rfl, hm, hb⟩
      clear Hc_
      have HL2_ := Lib.hid (HL2.out.below hb)
      clear HL2
      have HL2 := HL2_
      clear HL2_
      have HW_ := Lib.hid (HW.out.trans hb)
      clear HW
      have HW := HW_
      clear HW_
      have HB_ : Hid (B ≤ w10.heap.size) := Lib.hid (Nat.le_trans HB.out hb.size)
      clear HB
      have HB := HB_
      clear HB_ hb
      clear HM
      have HM := Lib.hid hm
      clear hm
      have HJ : Hid (StayK s0 (some ((fl : Int), -1, false)) 1 fl 0) := Lib.hid ⟨.inl ⟨rfl, rfl, rfl⟩, by rw [HBase.out]; exact hf0⟩
      clear HBase HOld HN
      go_upto_region 18 with (fail)
      go_loopw [8, 12, 13, 14, 15, 16, 17, 18, 19] (fun tv sv x13 x14 x15 x16 x17 x18 x19 wr => ∃ (s : Sh) (m : Option Mv) (g σ nt ct : Nat) (At : Option Addr) (T : List ByteArray), σ ≤ 70 ∧ sv = .int .i64 σ ∧ tv = .slice At nt ct ∧ Hid (StM wr B q s m g (.slice At nt ct) T) ∧ Hid (StT s T) ∧ Hid (StayK s m g fl σ) ∧ Hid (RdR wr B A2 n2 c2 l2) ∧ Hid (Below B w wr) ∧ Hid (B ≤ wr.heap.size)) (fun _ _ _ _ _ _ _ _ _ wr => muW wr q)
      case atStart => exact ⟨s0, _, 1, 0, nt, ct, At, T, by omega, rfl, rfl, HM, HT', HJ, HL2, HW, HB⟩
      case round =>
        clear HM HT' HJ HL2 HW HB
        obtain ⟨s, m, g, σ, nt, ct, At, T, hσ, rfl, rfl, HM, HT, HJ, HL2, HW, HB⟩ := hrel
        have hmu := Lib.hid HM.out.sh.mu
        by_cases hgo : m ≠ none ∨ s.old = true
        · skip
          have hc_ := HM.out.step HB.out (by rcases HJ.out.1 with ⟨_, e, _⟩ | ⟨_, _, _, e, _⟩ | ⟨_, e, _⟩ <;> omega) hgo
          have Hc_ := Lib.hid hc_
          clear hc_
          go_wp2_with fail
          refine Hc_.out.mono ?_
          rintro e w11 ⟨rfl, s1, m1, g1, hm, hb, hst⟩
          clear Hc_
          have HL2_ := Lib.hid (HL2.out.below hb)
          clear HL2
          have HL2 := HL2_
          clear HL2_
          have HW_ := Lib.hid (HW.out.trans hb)
          clear HW
          have HW := HW_
          clear HW_
          have HB_ : Hid (B ≤ w11.heap.size) := Lib.hid (Nat.le_trans HB.out hb.size)
          clear HB
          have HB := HB_
          clear HB_ hb
          clear HM
          have HM := Lib.hid hm
          clear hm
          obtain ⟨hj1, hj2⟩ := HJ.out.step hst
          have HJ1 := Lib.hid hj1
          have HT1 := Lib.hid (HT.out.step hst)
          have Hst := Lib.hid hst.mu
          have hs69 : σ + 1 ≤ 69 := hj2
          have hsI : (σ : Int) ≤ 68 := by omega
          have hs0 : (0 : Int) ≤ (σ : Int) := by omega
          have hd69 : decide ((69 : Int) < (σ : Int) + 1) = false := decide_eq_false (by omega)
          clear HJ HT hst hj1 hj2 hgo
          by_cases hsm : σ < n2
          · skip
            have hsn : decide ((σ : Int) < (n2 : Int)) = true := decide_eq_true (by omega)
            have hkl : σ < l2.length := by have := HN2.out; omega
            obtain ⟨bm, om, A3, n3, c3, rfl, hbm, d0, d1, d2, hrd⟩ := HL2.out.at_ σ hsm
            obtain ⟨f, hf⟩ : ∃ f, l2[σ] = f := ⟨_, rfl⟩
            rw [hf] at d0 d1 hrd
            obtain ⟨ra, rb, rd⟩ := f
            simp only at d0 d1 d2 hrd
            have hbm' : bm < w11.heap.size := by have := HB.out; omega
            obtain ⟨E, hE⟩ : ∃ E, nextE s1.log s1.text.size (ra, rb, rd) = E := ⟨_, rfl⟩
            obtain ⟨NN, hNN⟩ : ∃ NN : Int, (if E = 0 then s1.log.base + (s1.log.revs.length + 1 : Nat) else 0) = NN := ⟨_, rfl⟩
            have HE := Lib.hid hE
            have HNN := Lib.hid hNN
            have HRd := Lib.hid (hrd.more HB.out)
            clear hf hrd hE hNN hbm
            have hc_ := HM.out.add HB.out ra rb rd A3 n3 c3 HRd.out
            rw [HE.out, HNN.out] at hc_
            have Hc_ := Lib.hid hc_
            clear hc_
            go_wp2_with fail
            refine Hc_.out.mono ?_
            rintro e w11 ⟨rfl, hm, hb⟩
            clear Hc_
            have HL2_ := Lib.hid (HL2.out.below hb)
            clear HL2
            have HL2 := HL2_
            clear HL2_
            have HW_ := Lib.hid (HW.out.trans hb)
            clear HW
            have HW := HW_
            clear HW_
            have HB_ : Hid (B ≤ w11.heap.size) := Lib.hid (Nat.le_trans HB.out hb.size)
            clear HB
            have HB := HB_
            clear HB_ hb
            clear HM
            have HM := Lib.hid hm
            clear hm
            clear d0 d1 d2 hbm' HRd
            by_cases hE0 : E = 0
            · skip
              subst hE0
              have hnx := HE.out
              have hNt : NN = (nt : Int) := by
                obtain ⟨bb, h1, h2, h3⟩ := HT1.out
                have hf := (ownS_at HM.out.own bb _ (by have := h3 0 (Nat.zero_le _); simpa using this)).1
                have := HNN.out
                rw [if_pos rfl] at this
                omega
              subst hNt
              have hTa := HT1.out.add (m := m1) (ra, rb, rd) hnx
              have hJa := HJ1.out.add (ra, rb, rd)
              have hMa : muS (addG s1 m1 (ra, rb, rd)) m1 < muS s m := by rw [addG_mu]; exact Hst.out
              have hla := addG_len s1 m1 (ra, rb, rd) hnx
              have hba := addG_base s1 m1 (ra, rb, rd)
              obtain ⟨s2, hs2⟩ : ∃ s2, addG s1 m1 (ra, rb, rd) = s2 := ⟨_, rfl⟩
              rw [hs2] at HM hTa hJa hMa hla hba
              obtain ⟨TX, hTX⟩ : ∃ TX, txt s2.log.text s2.log.revs (s1.log.revs.length + 1) = TX := ⟨_, rfl⟩
              rw [hTX] at hTa
              have hrk : (nt : Int) = s2.log.base + ((s1.log.revs.length + 1 : Nat) : Int) := by
                have := HNN.out
                rw [if_pos rfl] at this
                rw [hba, ← this]
              have hrl : s1.log.revs.length + 1 ≤ s2.log.revs.length := by rw [hla]; exact Nat.le_refl _
              have HTX := Lib.hid hTX
              have HTa := Lib.hid hTa
              have HJa := Lib.hid hJa
              have HMa := Lib.hid hMa
              have Hrk := Lib.hid hrk
              have Hrl := Lib.hid hrl
              have hnt0 : (0 : Int) ≤ (nt : Int) := by omega
              clear hnx hTX hTa hJa hMa hla hba hrk hrl hs2 HT1 HJ1 Hst HNN HE
              have hc_ := stext_B q s2 m1 B g1 (nt : Int) (s1.log.revs.length + 1) w11 HM.out.sh Hrk.out Hrl.out
              rw [HTX.out] at hc_
              have Hc_ := Lib.hid hc_
              clear hc_
              go_wp2_with fail
              refine Hc_.out.mono ?_
              rintro e w11 ⟨rfl, hb11⟩
              clear Hc_
              have HM_ := Lib.hid (HM.out.below hb11)
              clear HM
              have HM := HM_
              clear HM_
              have HL2_ := Lib.hid (HL2.out.below (hb11.mono HB.out))
              clear HL2
              have HL2 := HL2_
              clear HL2_
              have HW_ := Lib.hid (HW.out.trans (hb11.mono HB.out))
              clear HW
              have HW := HW_
              clear HW_
              have HB_ : Hid (B ≤ w11.heap.size) := Lib.hid (Nat.le_trans HB.out hb11.size)
              clear HB
              have HB := HB_
              clear HB_ hb11
              have hlen : T.length ≤ 100000000 := by
                obtain ⟨bb, h1, h2, h3⟩ := HTa.out
                have h5 := HM.out.sh.hg.len
                have h6 := HJa.out.2
                have h4 : (T ++ [TX]).length = T.length + 1 := by simp
                omega
              have Hlen := Lib.hid hlen
              clear hlen
              go_upto_region 27 with (first | (at_builtin; refine wpList_app_strF w11 rfl (.tmp 110) (.tmp 112) rfl B (.slice At nt ct) T rfl HM.out.own TX 1 rfl Hlen.out HB.out ?_; intro v9 w9 g1_ g2 g3 g4))
              obtain ⟨A9, c9, e9⟩ := g1_.form_ rfl
              have h9 : (T ++ [TX]).length = nt + 1 := by
                obtain ⟨At', ct', e⟩ := HM.out.own.form_ rfl
                injection e with _ e _
                rw [List.length_append, ← e]; rfl
              rw [h9] at e9
              subst e9
              have HM9 := Lib.hid (HM.out.app g1_ g3 g4)
              clear HM
              have HM := HM9
              have HL9 := Lib.hid (HL2.out.below g2)
              clear HL2
              have HL2 := HL9
              have HW9 := Lib.hid (HW.out.trans g2)
              clear HW
              have HW := HW9
              have HB9 : Hid (B ≤ w9.heap.size) := Lib.hid (Nat.le_trans HB.out g2.size)
              clear HB
              have HB := HB9
              clear HB9 HW9 HL9 HM9 g1_ g2 g3 g4 h9
              obtain ⟨sz, hsz⟩ : ∃ sz, s2 = sz := ⟨_, rfl⟩
              rw [hsz] at HM HTa HJa HMa
              clear hsz
              obtain ⟨bb, hb1, hb2, hb3⟩ := HTa.out
              obtain ⟨LL, hLL⟩ : ∃ LL, sz.log.revs.length = LL := ⟨_, rfl⟩
              rw [hLL] at hb2 hb3
              have hL64 : LL ≤ 64 := by rw [← hLL]; exact HM.out.sh.hg.len
              have hbN : (bb : Int) ≤ 2147483647 := by have := HM.out.sh.hg.base1; omega
              have Hb1 := Lib.hid hb1
              have Hb2 := Lib.hid hb2
              have Hb3 := Lib.hid hb3
              have HLL := Lib.hid hLL
              have hHH : Hid (sz.log.base + (sz.log.revs.length : Int) = ((bb + LL : Nat) : Int)) := Lib.hid (by rw [hb1, hLL]; omega)
              obtain ⟨HH, hH2⟩ : ∃ HH, bb + LL = HH := ⟨_, rfl⟩
              rw [hH2] at hHH
              have HH2 := Lib.hid hH2
              have hbH : bb ≤ HH := by omega
              have hHI : (HH : Int) ≤ 2147483711 := by omega
              clear hb1 hb2 hb3 hLL hH2
              have hc_ := sbase_B q sz m1 B _ w9 HM.out.sh
              rw [Hb1.out] at hc_
              have Hc_ := Lib.hid hc_
              clear hc_
              go_wp2_with fail
              refine Hc_.out.mono ?_
              rintro e w12 ⟨rfl, hb12⟩
              clear Hc_
              have HM_ := Lib.hid (HM.out.below hb12)
              clear HM
              have HM := HM_
              clear HM_
              have HL2_ := Lib.hid (HL2.out.below (hb12.mono HB.out))
              clear HL2
              have HL2 := HL2_
              clear HL2_
              have HW_ := Lib.hid (HW.out.trans (hb12.mono HB.out))
              clear HW
              have HW := HW_
              clear HW_
              have HB_ : Hid (B ≤ w12.heap.size) := Lib.hid (Nat.le_trans HB.out hb12.size)
              clear HB
              have HB := HB_
              clear HB_ hb12
              go_upto_region 28 with (fail)
              go_loopw [17, 18, 19] (fun rv y18 y19 wr => ∃ (x : Nat), bb ≤ x ∧ x ≤ HH + 1 ∧ rv = .int .i64 x ∧ Hid (StM wr B q sz m1 _ (.slice A9 (nt + 1) c9) (T ++ [TX])) ∧ Hid (RdR wr B (some ⟨bm, om, none⟩) n2 c2 l2) ∧ Hid (Below B w wr) ∧ Hid (B ≤ wr.heap.size)) (fun rv _ _ _ => HH + 1 - (intOf rv).toNat)
              case atStart => exact ⟨bb, Nat.le_refl _, by omega, rfl, HM, HL2, HW, HB⟩
              case round =>
                clear HM HL2 HW HB
                obtain ⟨x, hx1, hx2, rfl, HM, HL2, HW, HB⟩ := hrel
                have hx0 : (0 : Int) ≤ (x : Int) := by omega
                have hc_ := shead_B q sz m1 B _ wr HM.out.sh
                rw [hHH.out] at hc_
                have Hc_ := Lib.hid hc_
                clear hc_
                go_wp2_with fail
                refine Hc_.out.mono ?_
                rintro e w13 ⟨rfl, hb13⟩
                clear Hc_
                have HM_ := Lib.hid (HM.out.below hb13)
                clear HM
                have HM := HM_
                clear HM_
                have HL2_ := Lib.hid (HL2.out.below (hb13.mono HB.out))
                clear HL2
                have HL2 := HL2_
                clear HL2_
                have HW_ := Lib.hid (HW.out.trans (hb13.mono HB.out))
                clear HW
                have HW := HW_
                clear HW_
                have HB_ : Hid (B ≤ w13.heap.size) := Lib.hid (Nat.le_trans HB.out hb13.size)
                clear HB
                have HB := HB_
                clear HB_ hb13
                by_cases hxl : x ≤ HH
                · skip
                  have hdx : decide ((x : Int) ≤ (HH : Int)) = true := decide_eq_true (by omega)
                  have hxk := Hb3.out (x - bb) (by have := HH2.out; omega)
                  rw [show bb + (x - bb) = x by omega] at hxk
                  obtain ⟨TX, hTX⟩ : ∃ TX, txt sz.log.text sz.log.revs (x - bb) = TX := ⟨_, rfl⟩
                  rw [hTX] at hxk
                  have HTX := Lib.hid hTX
                  have HXK := Lib.hid hxk
                  clear hTX hxk
                  have hc_ := stext_B q sz m1 B _ (x : Int) (x - bb) w13 HM.out.sh (by rw [Hb1.out]; omega) (by rw [HLL.out]; have := HH2.out; omega)
                  rw [HTX.out] at hc_
                  have Hc_ := Lib.hid hc_
                  clear hc_
                  go_wp2_with fail
                  refine Hc_.out.mono ?_
                  rintro e w14 ⟨rfl, hb14⟩
                  clear Hc_
                  have HM_ := Lib.hid (HM.out.below hb14)
                  clear HM
                  have HM := HM_
                  clear HM_
                  have HL2_ := Lib.hid (HL2.out.below (hb14.mono HB.out))
                  clear HL2
                  have HL2 := HL2_
                  clear HL2_
                  have HW_ := Lib.hid (HW.out.trans (hb14.mono HB.out))
                  clear HW
                  have HW := HW_
                  clear HW_
                  have HB_ : Hid (B ≤ w14.heap.size) := Lib.hid (Nat.le_trans HB.out hb14.size)
                  clear HB
                  have HB := HB_
                  clear HB_ hb14
                  obtain ⟨hnt, bt, hAt, hbt, dcl⟩ := ownS_at HM.out.own x TX HXK.out
                  have hxn : (x : Int) < ((nt + 1) : Int) := by have h1 := hnt; have h2 := Hb2.out; have h3 := HH2.out; omega
                  have hdn : decide (((nt + 1) : Int) ≤ (x : Int)) = false := decide_eq_false (by omega)
                  have hxn' : x < (nt + 1) := by omega
                  clear hnt
                  subst hAt
                  go_wp2_with fail
                  go_roundw
                  case rel => exact ⟨x + 1, by omega, by omega, by go_num, HM, HL2, HW, HB⟩
                  case measure => simp [intOf]; omega
                · skip
                  have hdx : decide ((x : Int) ≤ (HH : Int)) = false := decide_eq_false (by omega)
                  go_wp2_with fail
                  go_roundw
                  case rel => exact ⟨sz, m1, _, σ + 1, (nt + 1), c9, A9, (T ++ [TX]), by omega, by go_num, rfl, HM, HTa, HJa, HL2, HW, HB⟩
                  case measure => rw [hmu.out, HM.out.sh.mu]; exact HMa.out
            · skip
              have hEb : (E == 0) = false := by simpa using hE0
              have hsame : addG s1 m1 (ra, rb, rd) = s1 := by unfold addG; rw [if_neg (by rw [HE.out]; exact hE0)]
              rw [hsame] at HM
              clear hsame hE0 HNN
              obtain ⟨sz, hsz⟩ : ∃ sz, s1 = sz := ⟨_, rfl⟩
              rw [hsz] at HM HT1 HJ1 Hst
              clear hsz
              obtain ⟨bb, hb1, hb2, hb3⟩ := HT1.out
              obtain ⟨LL, hLL⟩ : ∃ LL, sz.log.revs.length = LL := ⟨_, rfl⟩
              rw [hLL] at hb2 hb3
              have hL64 : LL ≤ 64 := by rw [← hLL]; exact HM.out.sh.hg.len
              have hbN : (bb : Int) ≤ 2147483647 := by have := HM.out.sh.hg.base1; omega
              have Hb1 := Lib.hid hb1
              have Hb2 := Lib.hid hb2
              have Hb3 := Lib.hid hb3
              have HLL := Lib.hid hLL
              have hHH : Hid (sz.log.base + (sz.log.revs.length : Int) = ((bb + LL : Nat) : Int)) := Lib.hid (by rw [hb1, hLL]; omega)
              obtain ⟨HH, hH2⟩ : ∃ HH, bb + LL = HH := ⟨_, rfl⟩
              rw [hH2] at hHH
              have HH2 := Lib.hid hH2
              have hbH : bb ≤ HH := by omega
              have hHI : (HH : Int) ≤ 2147483711 := by omega
              clear hb1 hb2 hb3 hLL hH2
              have hc_ := sbase_B q sz m1 B _ w11 HM.out.sh
              rw [Hb1.out] at hc_
              have Hc_ := Lib.hid hc_
              clear hc_
              go_wp2_with fail
              refine Hc_.out.mono ?_
              rintro e w11 ⟨rfl, hb11⟩
              clear Hc_
              have HM_ := Lib.hid (HM.out.below hb11)
              clear HM
              have HM := HM_
              clear HM_
              have HL2_ := Lib.hid (HL2.out.below (hb11.mono HB.out))
              clear HL2
              have HL2 := HL2_
              clear HL2_
              have HW_ := Lib.hid (HW.out.trans (hb11.mono HB.out))
              clear HW
              have HW := HW_
              clear HW_
              have HB_ : Hid (B ≤ w11.heap.size) := Lib.hid (Nat.le_trans HB.out hb11.size)
              clear HB
              have HB := HB_
              clear HB_ hb11
              go_upto_region 28 with (fail)
              go_loopw [17, 18, 19] (fun rv y18 y19 wr => ∃ (x : Nat), bb ≤ x ∧ x ≤ HH + 1 ∧ rv = .int .i64 x ∧ Hid (StM wr B q sz m1 _ (.slice At nt ct) T) ∧ Hid (RdR wr B (some ⟨bm, om, none⟩) n2 c2 l2) ∧ Hid (Below B w wr) ∧ Hid (B ≤ wr.heap.size)) (fun rv _ _ _ => HH + 1 - (intOf rv).toNat)
              case atStart => exact ⟨bb, Nat.le_refl _, by omega, rfl, HM, HL2, HW, HB⟩
              case round =>
                clear HM HL2 HW HB
                obtain ⟨x, hx1, hx2, rfl, HM, HL2, HW, HB⟩ := hrel
                have hx0 : (0 : Int) ≤ (x : Int) := by omega
                have hc_ := shead_B q sz m1 B _ wr HM.out.sh
                rw [hHH.out] at hc_
                have Hc_ := Lib.hid hc_
                clear hc_
                go_wp2_with fail
                refine Hc_.out.mono ?_
                rintro e w12 ⟨rfl, hb12⟩
                clear Hc_
                have HM_ := Lib.hid (HM.out.below hb12)
                clear HM
                have HM := HM_
                clear HM_
                have HL2_ := Lib.hid (HL2.out.below (hb12.mono HB.out))
                clear HL2
                have HL2 := HL2_
                clear HL2_
                have HW_ := Lib.hid (HW.out.trans (hb12.mono HB.out))
                clear HW
                have HW := HW_
                clear HW_
                have HB_ : Hid (B ≤ w12.heap.size) := Lib.hid (Nat.le_trans HB.out hb12.size)
                clear HB
                have HB := HB_
                clear HB_ hb12
                by_cases hxl : x ≤ HH
                · skip
                  have hdx : decide ((x : Int) ≤ (HH : Int)) = true := decide_eq_true (by omega)
                  have hxk := Hb3.out (x - bb) (by have := HH2.out; omega)
                  rw [show bb + (x - bb) = x by omega] at hxk
                  obtain ⟨TX, hTX⟩ : ∃ TX, txt sz.log.text sz.log.revs (x - bb) = TX := ⟨_, rfl⟩
                  rw [hTX] at hxk
                  have HTX := Lib.hid hTX
                  have HXK := Lib.hid hxk
                  clear hTX hxk
                  have hc_ := stext_B q sz m1 B _ (x : Int) (x - bb) w12 HM.out.sh (by rw [Hb1.out]; omega) (by rw [HLL.out]; have := HH2.out; omega)
                  rw [HTX.out] at hc_
                  have Hc_ := Lib.hid hc_
                  clear hc_
                  go_wp2_with fail
                  refine Hc_.out.mono ?_
                  rintro e w13 ⟨rfl, hb13⟩
                  clear Hc_
                  have HM_ := Lib.hid (HM.out.below hb13)
                  clear HM
                  have HM := HM_
                  clear HM_
                  have HL2_ := Lib.hid (HL2.out.below (hb13.mono HB.out))
                  clear HL2
                  have HL2 := HL2_
                  clear HL2_
                  have HW_ := Lib.hid (HW.out.trans (hb13.mono HB.out))
                  clear HW
                  have HW := HW_
                  clear HW_
                  have HB_ : Hid (B ≤ w13.heap.size) := Lib.hid (Nat.le_trans HB.out hb13.size)
                  clear HB
                  have HB := HB_
                  clear HB_ hb13
                  obtain ⟨hnt, bt, hAt, hbt, dcl⟩ := ownS_at HM.out.own x TX HXK.out
                  have hxn : (x : Int) < (nt : Int) := by have h1 := hnt; have h2 := Hb2.out; have h3 := HH2.out; omega
                  have hdn : decide ((nt : Int) ≤ (x : Int)) = false := decide_eq_false (by omega)
                  have hxn' : x < nt := by omega
                  clear hnt
                  subst hAt
                  go_wp2_with fail
                  go_roundw
                  case rel => exact ⟨x + 1, by omega, by omega, by go_num, HM, HL2, HW, HB⟩
                  case measure => simp [intOf]; omega
                · skip
                  have hdx : decide ((x : Int) ≤ (HH : Int)) = false := decide_eq_false (by omega)
                  go_wp2_with fail
                  go_roundw
                  case rel => exact ⟨sz, m1, _, σ + 1, nt, ct, At, T, by omega, by go_num, rfl, HM, HT1, HJ1, HL2, HW, HB⟩
                  case measure => rw [hmu.out, HM.out.sh.mu]; exact Hst.out
          · skip
            have hsn : decide ((σ : Int) < (n2 : Int)) = false := decide_eq_false (by omega)
            obtain ⟨sz, hsz⟩ : ∃ sz, s1 = sz := ⟨_, rfl⟩
            rw [hsz] at HM HT1 HJ1 Hst
            clear hsz
            obtain ⟨bb, hb1, hb2, hb3⟩ := HT1.out
            obtain ⟨LL, hLL⟩ : ∃ LL, sz.log.revs.length = LL := ⟨_, rfl⟩
            rw [hLL] at hb2 hb3
            have hL64 : LL ≤ 64 := by rw [← hLL]; exact HM.out.sh.hg.len
            have hbN : (bb : Int) ≤ 2147483647 := by have := HM.out.sh.hg.base1; omega
            have Hb1 := Lib.hid hb1
            have Hb2 := Lib.hid hb2
            have Hb3 := Lib.hid hb3
            have HLL := Lib.hid hLL
            have hHH : Hid (sz.log.base + (sz.log.revs.length : Int) = ((bb + LL : Nat) : Int)) := Lib.hid (by rw [hb1, hLL]; omega)
            obtain ⟨HH, hH2⟩ : ∃ HH, bb + LL = HH := ⟨_, rfl⟩
            rw [hH2] at hHH
            have HH2 := Lib.hid hH2
            have hbH : bb ≤ HH := by omega
            have hHI : (HH : Int) ≤ 2147483711 := by omega
            clear hb1 hb2 hb3 hLL hH2
            have hc_ := sbase_B q sz m1 B _ w11 HM.out.sh
            rw [Hb1.out] at hc_
            have Hc_ := Lib.hid hc_
            clear hc_
            go_wp2_with fail
            refine Hc_.out.mono ?_
            rintro e w11 ⟨rfl, hb11⟩
            clear Hc_
            have HM_ := Lib.hid (HM.out.below hb11)
            clear HM
            have HM := HM_
            clear HM_
            have HL2_ := Lib.hid (HL2.out.below (hb11.mono HB.out))
            clear HL2
            have HL2 := HL2_
            clear HL2_
            have HW_ := Lib.hid (HW.out.trans (hb11.mono HB.out))
            clear HW
            have HW := HW_
            clear HW_
            have HB_ : Hid (B ≤ w11.heap.size) := Lib.hid (Nat.le_trans HB.out hb11.size)
            clear HB
            have HB := HB_
            clear HB_ hb11
            go_upto_region 28 with (fail)
            go_loopw [17, 18, 19] (fun rv y18 y19 wr => ∃ (x : Nat), bb ≤ x ∧ x ≤ HH + 1 ∧ rv = .int .i64 x ∧ Hid (StM wr B q sz m1 _ (.slice At nt ct) T) ∧ Hid (RdR wr B A2 n2 c2 l2) ∧ Hid (Below B w wr) ∧ Hid (B ≤ wr.heap.size)) (fun rv _ _ _ => HH + 1 - (intOf rv).toNat)
            case atStart => exact ⟨bb, Nat.le_refl _, by omega, rfl, HM, HL2, HW, HB⟩
            case round =>
              clear HM HL2 HW HB
              obtain ⟨x, hx1, hx2, rfl, HM, HL2, HW, HB⟩ := hrel
              have hx0 : (0 : Int) ≤ (x : Int) := by omega
              have hc_ := shead_B q sz m1 B _ wr HM.out.sh
              rw [hHH.out] at hc_
              have Hc_ := Lib.hid hc_
              clear hc_
              go_wp2_with fail
              refine Hc_.out.mono ?_
              rintro e w12 ⟨rfl, hb12⟩
              clear Hc_
              have HM_ := Lib.hid (HM.out.below hb12)
              clear HM
              have HM := HM_
              clear HM_
              have HL2_ := Lib.hid (HL2.out.below (hb12.mono HB.out))
              clear HL2
              have HL2 := HL2_
              clear HL2_
              have HW_ := Lib.hid (HW.out.trans (hb12.mono HB.out))
              clear HW
              have HW := HW_
              clear HW_
              have HB_ : Hid (B ≤ w12.heap.size) := Lib.hid (Nat.le_trans HB.out hb12.size)
              clear HB
              have HB := HB_
              clear HB_ hb12
              by_cases hxl : x ≤ HH
              · skip
                have hdx : decide ((x : Int) ≤ (HH : Int)) = true := decide_eq_true (by omega)
                have hxk := Hb3.out (x - bb) (by have := HH2.out; omega)
                rw [show bb + (x - bb) = x by omega] at hxk
                obtain ⟨TX, hTX⟩ : ∃ TX, txt sz.log.text sz.log.revs (x - bb) = TX := ⟨_, rfl⟩
                rw [hTX] at hxk
                have HTX := Lib.hid hTX
                have HXK := Lib.hid hxk
                clear hTX hxk
                have hc_ := stext_B q sz m1 B _ (x : Int) (x - bb) w12 HM.out.sh (by rw [Hb1.out]; omega) (by rw [HLL.out]; have := HH2.out; omega)
                rw [HTX.out] at hc_
                have Hc_ := Lib.hid hc_
                clear hc_
                go_wp2_with fail
                refine Hc_.out.mono ?_
                rintro e w13 ⟨rfl, hb13⟩
                clear Hc_
                have HM_ := Lib.hid (HM.out.below hb13)
                clear HM
                have HM := HM_
                clear HM_
                have HL2_ := Lib.hid (HL2.out.below (hb13.mono HB.out))
                clear HL2
                have HL2 := HL2_
                clear HL2_
                have HW_ := Lib.hid (HW.out.trans (hb13.mono HB.out))
                clear HW
                have HW := HW_
                clear HW_
                have HB_ : Hid (B ≤ w13.heap.size) := Lib.hid (Nat.le_trans HB.out hb13.size)
                clear HB
                have HB := HB_
                clear HB_ hb13
                obtain ⟨hnt, bt, hAt, hbt, dcl⟩ := ownS_at HM.out.own x TX HXK.out
                have hxn : (x : Int) < (nt : Int) := by have h1 := hnt; have h2 := Hb2.out; have h3 := HH2.out; omega
                have hdn : decide ((nt : Int) ≤ (x : Int)) = false := decide_eq_false (by omega)
                have hxn' : x < nt := by omega
                clear hnt
                subst hAt
                go_wp2_with fail
                go_roundw
                case rel => exact ⟨x + 1, by omega, by omega, by go_num, HM, HL2, HW, HB⟩
                case measure => simp [intOf]; omega
              · skip
                have hdx : decide ((x : Int) ≤ (HH : Int)) = false := decide_eq_false (by omega)
                go_wp2_with fail
                go_roundw
                case rel => exact ⟨sz, m1, _, σ + 1, nt, ct, At, T, by omega, by go_num, rfl, HM, HT1, HJ1, HL2, HW, HB⟩
                case measure => rw [hmu.out, HM.out.sh.mu]; exact Hst.out
        · skip
          have hgo' : m = none ∧ s.old = false := by
            refine ⟨?_, ?_⟩
            · cases m with
              | none => rfl
              | some v => exact absurd (.inl (by simp)) hgo
            · cases hx : s.old with
              | false => rfl
              | true => exact absurd (.inr hx) hgo
          obtain ⟨rfl, ho⟩ := hgo'
          have HOld := Lib.hid ho
          have hbf : s.log.base = (fl : Int) := by rcases HJ.out.1 with ⟨e, _⟩ | ⟨_, _, e, _⟩ | ⟨_, _, e, _⟩; cases e; cases e; exact e
          obtain ⟨bb, hb1, hb2, hb3⟩ := HT.out
          have hnt : nt = T.length := (ownS_at HM.out.own bb _ (by have := hb3 0 (Nat.zero_le _); simpa using this)).1
          obtain ⟨HH, hHH⟩ : ∃ HH : Nat, s.log.base + (s.log.revs.length : Int) = (HH : Int) := ⟨bb + s.log.revs.length, by rw [hb1]; omega⟩
          obtain rfl : nt = HH + 1 := by omega
          have HBf := Lib.hid hbf
          have HHH := Lib.hid hHH
          have hHI : (HH : Int) ≤ 2147483711 := by have := HM.out.sh.hg.base1; have := HM.out.sh.hg.len; omega
          clear ho hbf hgo hb1 hb2 hb3 hnt hHH HJ hmu HT
          have hc_ := sstepno_B q s B g wr HM.out.sh HOld.out
          have Hc_ := Lib.hid hc_
          clear hc_
          go_wp2_with fail
          refine Hc_.out.mono ?_
          rintro e w11 ⟨rfl, hb11⟩
          clear Hc_
          have HM_ := Lib.hid (HM.out.below hb11)
          clear HM
          have HM := HM_
          clear HM_
          have HL2_ := Lib.hid (HL2.out.below (hb11.mono HB.out))
          clear HL2
          have HL2 := HL2_
          clear HL2_
          have HW_ := Lib.hid (HW.out.trans (hb11.mono HB.out))
          clear HW
          have HW := HW_
          clear HW_
          have HB_ : Hid (B ≤ w11.heap.size) := Lib.hid (Nat.le_trans HB.out hb11.size)
          clear HB
          have HB := HB_
          clear HB_ hb11
          have hc_ := sbase_B q s none B g w11 HM.out.sh
          rw [HBf.out] at hc_
          have Hc_ := Lib.hid hc_
          clear hc_
          go_wp2_with fail
          refine Hc_.out.mono ?_
          rintro e w12 ⟨rfl, hb12⟩
          clear Hc_
          have HM_ := Lib.hid (HM.out.below hb12)
          clear HM
          have HM := HM_
          clear HM_
          have HL2_ := Lib.hid (HL2.out.below (hb12.mono HB.out))
          clear HL2
          have HL2 := HL2_
          clear HL2_
          have HW_ := Lib.hid (HW.out.trans (hb12.mono HB.out))
          clear HW
          have HW := HW_
          clear HW_
          have HB_ : Hid (B ≤ w12.heap.size) := Lib.hid (Nat.le_trans HB.out hb12.size)
          clear HB
          have HB := HB_
          clear HB_ hb12
          have hc_ := shead_B q s none B g w12 HM.out.sh
          rw [HHH.out] at hc_
          have Hc_ := Lib.hid hc_
          clear hc_
          go_wp2_with fail
          refine Hc_.out.mono ?_
          rintro e w13 ⟨rfl, hb13⟩
          clear Hc_
          have HM_ := Lib.hid (HM.out.below hb13)
          clear HM
          have HM := HM_
          clear HM_
          have HL2_ := Lib.hid (HL2.out.below (hb13.mono HB.out))
          clear HL2
          have HL2 := HL2_
          clear HL2_
          have HW_ := Lib.hid (HW.out.trans (hb13.mono HB.out))
          clear HW
          have HW := HW_
          clear HW_
          have HB_ : Hid (B ≤ w13.heap.size) := Lib.hid (Nat.le_trans HB.out hb13.size)
          clear HB
          have HB := HB_
          clear HB_ hb13
          have HM2 := Lib.hid HM.out.sh
          clear HM
          have HM := HM2
          clear HM2
          have hc_ := skeep_B q s B g (fl : Int) 0 w13 HM.out HB.out HOld.out (by rw [HBf.out]; omega) (Nat.zero_le _)
          have Hc_ := Lib.hid hc_
          clear hc_
          go_wp2_with fail
          refine Hc_.out.mono ?_
          rintro e w14 ⟨rfl, hm, hb⟩
          clear Hc_
          have HL2_ := Lib.hid (HL2.out.below hb)
          clear HL2
          have HL2 := HL2_
          clear HL2_
          have HW_ := Lib.hid (HW.out.trans hb)
          clear HW
          have HW := HW_
          clear HW_
          have HB_ : Hid (B ≤ w14.heap.size) := Lib.hid (Nat.le_trans HB.out hb.size)
          clear HB
          have HB := HB_
          clear HB_ hb
          clear HM
          have HM := Lib.hid hm
          clear hm
          go_wp2_with fail
          go_ret
          exact ⟨rfl, HBw.out ▸ HW.out⟩
end Go.Proofs.Ytfncpcmaplhojaa
