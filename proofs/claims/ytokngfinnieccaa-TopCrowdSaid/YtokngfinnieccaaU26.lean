/- Contract of world.Calm. Contract of world.say. Contracts of the helpers of the laws on meet: puts, cuts. Contract of world.puts. -/
import Derived.Test.YtokngfinnieccaaU25
import Derived.Test.YtokngfinnieccaaU10
namespace Go.Proofs.Ytokngfinnieccaa
open Go.ChangeShapes Go.WideShapes Go.RowKit
set_option linter.unusedVariables false
set_option linter.unusedSimpArgs false
set_option maxRecDepth 100000
set_option maxHeartbeats 4000000
theorem seat_info : (Try.prog.info? 118).map (·.size) = some 10 := by kernel_rfl
theorem stc_ones (x : St) (a : Sl × Sl × Sl) : (stc x a).toArray.all (·.oneCell') = true := by simp [stc, Value.oneCell']
def CalmP (s : Sh) (X : List St) (w : World) (e : Ending) (w' : World) : Prop := ∃ b : Bool, e = .returned (.bool b) ∧ (b = true ↔ calmW s X) ∧ Below w.heap.size w w'
theorem WdM.range {w : World} {F : Nat → Prop} {q sq gs cap : Nat} {E : List (Sl × Sl × Sl)} {sp : List Value} {s : Sh} {X : List St} {put edits : Int} (h : WdM w F q sq gs cap E sp s X put edits) {i : Nat} {x : St} {a : Sl × Sl × Sl} (hx : X[i]? = some x) (ha : E[i]? = some a) : w.rangeAt gs (i * 10) (stc x a) := by
 obtain ⟨b, hb, _, hat⟩ := h.at_ hx
 rw [ha] at hb
 injection hb with hb
 subst hb
 intro j v hj
 have hj10 : j < 10 := (List.getElem?_eq_some_iff.1 hj).1
 exact (hat j hj10).trans hj
theorem wcalm_any (w : World) (F : Nat → Prop) (q sq gs cap : Nat) (E : List (Sl × Sl × Sl)) (sp : List Value) (s : Sh) (X : List St) (put edits : Int) (h : WdM w F q sq gs cap E sp s X put edits) (hb : s.log.base = 0) :
 Calls Try.prog 54 #[.pointer (some ⟨q, 0, none⟩)] w fun e w' => CalmP s X w e w' := by
 obtain ⟨N, hN⟩ : ∃ N, X.length = N := ⟨_, rfl⟩
 have hkq := h.kq
 have hc1 := h.c1
 have hc2 := h.c2
 rw [hN] at hkq hc1
 have hcp : (N : Int) ≤ (cap : Int) := by omega
 have hcm : (cap : Int) ≤ 9223372036854775807 := by simp only [maxLen] at hc2; omega
 have hN0 : (0 : Int) ≤ (N : Int) := by omega
 have q0 : w.cell? ⟨q, 0, none⟩ = some (.pointer (some ⟨sq, 0, none⟩)) := hkq.cell 0
 have q1 : w.cell? ⟨q, 1, none⟩ = some (.slice (some ⟨gs, 0, none⟩) N cap) := hkq.cell 1
 have lq := hkq.lt
 have lg := h.kg.lt
 have hLR : s.log.base + (s.log.revs.length : Int) = ((s.log.revs.length : Nat) : Int) := by rw [hb, Int.zero_add]
 obtain ⟨LR, hlr⟩ : ∃ LR, s.log.revs.length = LR := ⟨_, rfl⟩
 have HLR := Lib.hid hlr
 have HLE := Lib.hid hLR
 have HM := Lib.hid h
 have HB : Hid (Below w.heap.size w w) := Lib.hid (Below.refl _ _)
 have HNN := Lib.hid hN
 have HA : Hid (∀ x ∈ X.take 0, x.up = [] ∧ s.log.revs.length ≤ x.told) := Lib.hid (by simp)
 have HH0 := Lib.hid (fun (w' : World) (h' : WdM w' F q sq gs cap E sp s X put edits) => shead_B sq s none 0 1 w' (ShB.of h'.sh (fun _ _ => Nat.zero_le _)))
 clear h hkq hc1 hc2 hN hlr hLR
 go_enter Try.func54, Try.ntmps54
 go_wp2_with fail
 go_loopw [4, 10] (fun x4 iv wr => ∃ (k : Nat), k ≤ N ∧ iv = .int .i64 k ∧ Hid (WdM wr F q sq gs cap E sp s X put edits) ∧ Hid (∀ x ∈ X.take k, x.up = [] ∧ s.log.revs.length ≤ x.told) ∧ Hid (Below w.heap.size w wr)) (fun _ iv _ => N - (intOf iv).toNat)
 case atStart => exact ⟨0, by omega, rfl, HM, HA, HB⟩
 case round =>
  clear q0 q1 lq lg HM HA HB
  obtain ⟨k, hk, rfl, HM, HA, HB⟩ := hrel
  by_cases hlt : k < N
  · have hkX : k < X.length := by rw [HNN.out]; exact hlt
    obtain ⟨x, hx⟩ : ∃ x, X[k]? = some x := ⟨X[k], List.getElem?_eq_getElem hkX⟩
    obtain ⟨⟨a_, b_, ⟨u1, u2, u3⟩⟩, ha, hs, hat⟩ := HM.out.at_ hx
    have htk : X.take (k + 1) = X.take k ++ [x] := by
     rw [List.take_succ_eq_append_getElem hkX]
     rw [List.getElem?_eq_getElem hkX] at hx
     injection hx with hx
     rw [hx]
    have hk0 : (0 : Int) ≤ (k : Int) := by omega
    have hkN : (k : Int) < (N : Int) := by omega
    have Hr := Lib.hid (HM.out.range hx ha)
    have lg := HM.out.kg.lt
    have HX := Lib.hid hx
    have HS := Lib.hid hs
    have HTK := Lib.hid htk
    clear hx hs hat ha htk hkX
    go_upto_region 4 with (first | (refine wpList_load_mid rfl _ (.tmp 12) rfl gs (k * 10) rfl (stc x (a_, b_, (u1, u2, u3))) _ Hr.out Try.underlying118 rfl seat_info ?_) | (refine wpList_store_blk rfl _ (.tmp 4) (.tmp 13) rfl wr.heap.size (stc x (a_, b_, (u1, u2, u3))).toArray rfl rfl _ _ (Blk.new wr _ _) (by show _ = some 10; exact seat_info) (by rfl) (stc_ones _ _) ?_))
    have kz := (Blk.new wr 118 #[.int .i64 0, .int .i64 0, .int .i64 0, .string ⟨#[]⟩, .bool false, .slice none 0 0, .bool false, .slice none 0 0, .slice none 0 0, .int .i64 0]).row (stc x (a_, b_, (u1, u2, u3))).toArray
    have hbv := below_setRow ((Below.refl wr.heap.size wr).alloc (Nat.le_refl _) (.cells #[.int .i64 0, .int .i64 0, .int .i64 0, .string ⟨#[]⟩, .bool false, .slice none 0 0, .bool false, .slice none 0 0, .slice none 0 0, .int .i64 0] 118)) wr.heap.size (stc x (a_, b_, (u1, u2, u3))).toArray (Nat.le_refl _)
    obtain ⟨V, hV⟩ : ∃ V, (wr.alloc (.cells #[.int .i64 0, .int .i64 0, .int .i64 0, .string ⟨#[]⟩, .bool false, .slice none 0 0, .bool false, .slice none 0 0, .slice none 0 0, .int .i64 0] 118)).setRow wr.heap.size (stc x (a_, b_, (u1, u2, u3))).toArray = V := ⟨_, rfl⟩
    rw [hV] at kz hbv ⊢
    obtain ⟨z, hz⟩ : ∃ z, wr.heap.size = z := ⟨_, rfl⟩
    have HM_ := Lib.hid (HM.out.below hbv)
    have HB_ := Lib.hid (HB.out.trans (hbv.mono HB.out.size))
    rw [hz] at kz ⊢
    clear HM HB Hr lg hV hz
    have HM := HM_
    have HB := HB_
    have lz := kz.lt
    clear HM_ HB_ hbv
    have HH : Hid (∀ w', Below V.heap.size V w' → Calls Try.prog 40 #[.pointer (some ⟨sq, 0, none⟩)] w' fun e w'' => e = .returned (.int .i64 (LR : Int)) ∧ Below w'.heap.size w' w'') := Lib.hid (fun (w' : World) (hbw : Below V.heap.size V w') => by
     have h9 := HH0.out w' (HM.out.below hbw)
     rw [HLE.out, HLR.out] at h9
     exact h9)
    rcases HS.out.u.2 with ⟨hu, hu2, _⟩ | ⟨m, d_, g_, o_, cur_, hu, hu1, hu2, _⟩
    · have hu2 : u2 = 0 := hu2
      subst hu2
      have HU := Lib.hid hu
      clear hu
      refine wp_region_held (S := fun w' => Blk w' z 118 (stc x (a_, b_, (u1, 0, u3))).toArray ∧ w'.cell? ⟨z, 8, none⟩ = some (.slice u1 0 u3) ∧ w'.cell? ⟨z, 9, none⟩ = some (.int .i64 x.told) ∧ w'.cell? ⟨q, 0, none⟩ = some (.pointer (some ⟨sq, 0, none⟩)) ∧ Below V.heap.size V w') (by kernel_rfl) ?_
      have hS : Blk V.drew z 118 (stc x (a_, b_, (u1, 0, u3))).toArray ∧ V.drew.cell? ⟨z, 8, none⟩ = some (.slice u1 0 u3) ∧ V.drew.cell? ⟨z, 9, none⟩ = some (.int .i64 x.told) ∧ V.drew.cell? ⟨q, 0, none⟩ = some (.pointer (some ⟨sq, 0, none⟩)) ∧ Below V.heap.size V V.drew := ⟨kz.drew, kz.drew.cell 8, kz.drew.cell 9, HM.out.kq.drew.cell 0, Below.drew (Below.refl _ _)⟩
      change wpAnyH _ _ _ _ _ _ _ _ V.drew
      refine tkZ 14 0 rfl rfl (.pointer (some ⟨z, 8, none⟩)) (.inl ⟨rfl, fun w' h' => by go_simp⟩) hS ?_
      simp only [Act.put, zA, zB, zC]
      refine tkZ 15 1 rfl rfl (.slice u1 0 u3) (.inl ⟨rfl, fun w' h' => by obtain ⟨-, h1, h2, h3, -⟩ := h'; go_simp⟩) hS ?_
      simp only [Act.put, zA, zB, zC]
      refine tkZ 16 2 rfl rfl (.int .i64 0) (.inl ⟨rfl, fun w' h' => by go_simp⟩) hS ?_
      simp only [Act.put, zA, zB, zC]
      refine tkZ 17 3 rfl rfl (.bool false) (.inl ⟨rfl, fun w' h' => by go_simp⟩) hS ?_
      simp only [Act.put, zA, zB, zC]
      refine tkZ 18 4 rfl rfl (.bool false) (.inl ⟨rfl, fun w' h' => by go_simp⟩) hS ?_
      simp only [Act.put, zA, zB, zC]
      refine tkZ 19 5 rfl rfl (.pointer (some ⟨z, 9, none⟩)) (.inl ⟨rfl, fun w' h' => by go_simp⟩) hS ?_
      simp only [Act.put, zA, zB, zC]
      refine tkZ 20 6 rfl rfl (.int .i64 x.told) (.inl ⟨rfl, fun w' h' => by obtain ⟨-, h1, h2, h3, -⟩ := h'; go_simp⟩) hS ?_
      simp only [Act.put, zA, zB, zC]
      refine tkZ 21 7 rfl rfl (.pointer (some ⟨q, 0, none⟩)) (.inl ⟨rfl, fun w' h' => by go_simp⟩) hS ?_
      simp only [Act.put, zA, zB, zC]
      refine tkZ 22 8 rfl rfl (.pointer (some ⟨q, 0, none⟩)) (.inl ⟨rfl, fun w' h' => by go_simp⟩) hS ?_
      simp only [Act.put, zA, zB, zC]
      refine tkZ 23 9 rfl rfl (.pointer (some ⟨q, 0, none⟩)) (.inl ⟨rfl, fun w' h' => by go_simp⟩) hS ?_
      simp only [Act.put, zA, zB, zC]
      refine tkZ 24 10 rfl rfl (.pointer (some ⟨sq, 0, none⟩)) (.inl ⟨rfl, fun w' h' => by obtain ⟨-, h1, h2, h3, -⟩ := h'; go_simp⟩) hS ?_
      simp only [Act.put, zA, zB, zC]
      have hcc_ := HH.out V.drew (Below.drew (Below.refl _ _))
      refine wpAnyH_all (rs := [11]) (by kernel_rfl) (List.cons_ne_nil _ _) (fun i11 hi11 => ?_)
      obtain rfl := List.mem_singleton.1 hi11
      refine wpOp_enter 25 rfl rfl rfl 40 #[.pointer (some ⟨sq, 0, none⟩)] (by go_simp) (.int .i64 (LR : Int)) (fun w' => Below V.drew.heap.size V.drew w') hcc_ ?_
      intro v1 hv1
      simp only [Act.put, zA, zB, zC]
      clear hcc_
      have hv1b : Below V.heap.size V v1 := (Below.drew (Below.refl _ _)).trans hv1
      have hSv1 : Blk v1 z 118 (stc x (a_, b_, (u1, 0, u3))).toArray ∧ v1.cell? ⟨z, 8, none⟩ = some (.slice u1 0 u3) ∧ v1.cell? ⟨z, 9, none⟩ = some (.int .i64 x.told) ∧ v1.cell? ⟨q, 0, none⟩ = some (.pointer (some ⟨sq, 0, none⟩)) ∧ Below V.heap.size V v1 := by
       have k1 := kz.below hv1b kz.lt
       have k2 := HM.out.kq.below hv1b HM.out.kq.lt
       exact ⟨k1, k1.cell 8, k1.cell 9, k2.cell 0, hv1b⟩
      refine ⟨hSv1, ?_⟩
      refine tkZ 26 12 rfl rfl (.bool (decide (x.told < LR))) (.inl ⟨rfl, fun w' h' => by go_simp⟩) hSv1 ?_
      simp only [Act.put, zA, zB, zC]
      refine tkZ 27 13 rfl rfl (.bool (decide (x.told < LR))) (.inl ⟨rfl, fun w' h' => by go_simp⟩) hSv1 ?_
      simp only [Act.put, zA, zB, zC]
      refine wpAnyH_done (by kernel_rfl) ?_ _
      clear hS hSv1 lz
      have HM1 := Lib.hid (HM.out.below hv1b)
      have HB1 := Lib.hid (HB.out.trans (hv1b.mono HB.out.size))
      clear hv1 hv1b kz HH HM HB
      by_cases htl : x.told < LR
      · go_wp2_with fail
        go_ret
        refine ⟨false, rfl, ?_, HB1.out⟩
        constructor
        · intro e; cases e
        · intro hc
          have := (hc x (List.mem_of_getElem? HX.out)).2
          rw [HLR.out] at this
          omega
      · go_wp2_with fail
        go_roundw
        case rel => exact ⟨k + 1, by omega, by go_num, HM1, Lib.hid (by
         intro y hy
         rw [HTK.out] at hy
         rcases List.mem_append.1 hy with hy | hy
         · exact HA.out y hy
         · rw [List.mem_singleton.1 hy]
           exact ⟨HU.out, by rw [HLR.out]; omega⟩), HB1⟩
        case measure => simp [intOf]; omega
    · have hu2 : u2 = 1 := hu2
      subst hu2
      have HU := Lib.hid hu
      clear hu hu1
      refine wp_region_held (S := fun w' => Blk w' z 118 (stc x (a_, b_, (u1, 1, u3))).toArray ∧ w'.cell? ⟨z, 8, none⟩ = some (.slice u1 1 u3) ∧ w'.cell? ⟨z, 9, none⟩ = some (.int .i64 x.told) ∧ w'.cell? ⟨q, 0, none⟩ = some (.pointer (some ⟨sq, 0, none⟩)) ∧ Below V.heap.size V w') (by kernel_rfl) ?_
      have hS : Blk V.drew z 118 (stc x (a_, b_, (u1, 1, u3))).toArray ∧ V.drew.cell? ⟨z, 8, none⟩ = some (.slice u1 1 u3) ∧ V.drew.cell? ⟨z, 9, none⟩ = some (.int .i64 x.told) ∧ V.drew.cell? ⟨q, 0, none⟩ = some (.pointer (some ⟨sq, 0, none⟩)) ∧ Below V.heap.size V V.drew := ⟨kz.drew, kz.drew.cell 8, kz.drew.cell 9, HM.out.kq.drew.cell 0, Below.drew (Below.refl _ _)⟩
      change wpAnyH _ _ _ _ _ _ _ _ V.drew
      refine tkZ 14 0 rfl rfl (.pointer (some ⟨z, 8, none⟩)) (.inl ⟨rfl, fun w' h' => by go_simp⟩) hS ?_
      simp only [Act.put, zA, zB, zC]
      refine tkZ 15 1 rfl rfl (.slice u1 1 u3) (.inl ⟨rfl, fun w' h' => by obtain ⟨-, h1, h2, h3, -⟩ := h'; go_simp⟩) hS ?_
      simp only [Act.put, zA, zB, zC]
      refine tkZ 16 2 rfl rfl (.int .i64 1) (.inl ⟨rfl, fun w' h' => by go_simp⟩) hS ?_
      simp only [Act.put, zA, zB, zC]
      refine tkZ 17 3 rfl rfl (.bool true) (.inl ⟨rfl, fun w' h' => by go_simp⟩) hS ?_
      simp only [Act.put, zA, zB, zC]
      refine tkZ 18 4 rfl rfl (.bool true) (.inl ⟨rfl, fun w' h' => by go_simp⟩) hS ?_
      simp only [Act.put, zA, zB, zC]
      refine tkZ 19 5 rfl rfl (undef) (.inr ⟨rfl, rfl⟩) hS ?_
      simp only [Act.put, zA, zB, zC]
      refine tkZ 20 6 rfl rfl (undef) (.inr ⟨rfl, rfl⟩) hS ?_
      simp only [Act.put, zA, zB, zC]
      refine tkZ 21 7 rfl rfl (undef) (.inr ⟨rfl, rfl⟩) hS ?_
      simp only [Act.put, zA, zB, zC]
      refine tkZ 22 8 rfl rfl (undef) (.inr ⟨rfl, rfl⟩) hS ?_
      simp only [Act.put, zA, zB, zC]
      refine tkZ 23 9 rfl rfl (undef) (.inr ⟨rfl, rfl⟩) hS ?_
      simp only [Act.put, zA, zB, zC]
      refine tkZ 24 10 rfl rfl (undef) (.inr ⟨rfl, rfl⟩) hS ?_
      simp only [Act.put, zA, zB, zC]
      refine tkZ 25 11 rfl rfl (undef) (.inr ⟨rfl, rfl⟩) hS ?_
      simp only [Act.put, zA, zB, zC]
      refine tkZ 26 12 rfl rfl (undef) (.inr ⟨rfl, rfl⟩) hS ?_
      simp only [Act.put, zA, zB, zC]
      refine tkZ 27 13 rfl rfl (.bool true) (.inl ⟨rfl, fun w' h' => by go_simp⟩) hS ?_
      simp only [Act.put, zA, zB, zC]
      refine wpAnyH_done (by kernel_rfl) ?_ _
      clear hS lz
      go_wp2_with fail
      go_ret
      refine ⟨false, rfl, ?_, Below.drew HB.out⟩
      constructor
      · intro e; cases e
      · intro hc
        have := (hc x (List.mem_of_getElem? HX.out)).1
        rw [HU.out] at this
        cases this
  · obtain rfl : k = N := by omega
    go_wp2_with fail
    go_ret
    refine ⟨true, rfl, ?_, HB.out⟩
    constructor
    · intro _ x hx
      exact HA.out x (by rw [List.take_of_length_le (by rw [HNN.out]; exact Nat.le_refl _)]; exact hx)
    · intro _; rfl
theorem info_msg : (Try.prog.info? 82).map (fun i => (i.zero, i.size, i.bytes)) = some (some (.agg #[.int .i64 0, .int .i64 0, .int .i64 0, .slice none 0 0]), 4, 48) := by kernel_rfl
theorem run_app_up (w : World) (u1 : Option Addr) (u3 : Nat) (hm : u3 ≤ maxLen) (hrow : 0 < u3 → ∃ g o cur, u1 = some ⟨g, o, none⟩ ∧ Blk w g 82 cur ∧ o + u3 * 4 ≤ cur.size)
 (ad : Addr) (c : Nat) (m0 m1 m2 m3 : Value) (hnews : ∀ j v, [m0, m1, m2, m3][j]? = some v → w.cell? (ad.add j) = some v) (h1 : ∀ v ∈ [m0, m1, m2, m3], v.oneCell' = true) (ty : TypeId) :
 ∃ g o u3' cur w', (Builtin.append_ #[116, 116] ty #[.slice u1 0 u3, .slice (some ad) 1 c]).run Try.prog w = .ok (.slice (some ⟨g, o, none⟩) 1 u3') w' ∧ 1 ≤ u3' ∧ u3' ≤ maxLen ∧ Blk w' g 82 cur ∧ o + u3' * 4 ≤ cur.size ∧
   (∀ j v, [m0, m1, m2, m3][j]? = some v → cur[o + j]? = some v) ∧ Only w w' (fun k => 0 < u3 ∧ ∃ a, u1 = some a ∧ a.block = k) ∧ ((0 < u3 ∧ ∃ a, u1 = some a ∧ a.block = g) ∨ w.heap.size ≤ g) := by
 obtain ⟨i0, hi, hz0, hz1, hz2⟩ := info_parts info_msg
 have hlen : [m0, m1, m2, m3].length = 1 * i0.size := by rw [hz1]; rfl
 by_cases hp : 0 < u3
 · obtain ⟨g, o, cur, rfl, hb, hs⟩ := hrow hp
   have hf := run_firstCells_some (P := Try.prog) w i0.size 1 ad 1 c [m0, m1, m2, m3] hlen hnews
   have hst := run_storeCells_at Try.prog g o 82 [m0, m1, m2, m3] 0 cur w hb (by simp only [List.length_cons, List.length_nil]; omega) h1
   have hr : (Builtin.append_ #[116, 116] ty #[.slice (some ⟨g, o, none⟩) 0 u3, .slice (some ad) 1 c]).run Try.prog w = .ok (.slice (some ⟨g, o, none⟩) 1 u3) (w.setRow g (cur.toList.take (o + 0) ++ [m0, m1, m2, m3] ++ cur.toList.drop (o + 0 + 4)).toArray) := by
    simp only [List.length_cons, List.length_nil] at hst
    simp [Builtin.append_, run_underlying Try.underlying116, sizeOf, typeInfo, hi, Builtin.lenOf, show 1 ≤ u3 from hp, hf, Addr.add, hst]
   refine ⟨g, o, u3, _, _, hr, hp, hm, hb.row _, ?_, ?_, ?_, .inl ⟨hp, _, rfl, rfl⟩⟩
   · simp only [List.size_toArray, List.length_append, List.length_take, List.length_drop, Array.length_toList, List.length_cons, List.length_nil]
     omega
   · intro j v hj
     have hj4 : j < 4 := (List.getElem?_eq_some_iff.1 hj).1
     have hsz : (cur.toList.take (o + 0)).length = o := by rw [List.length_take, Array.length_toList]; omega
     rw [List.getElem?_toArray, List.append_assoc, List.getElem?_append_right (by omega), hsz, Nat.add_sub_cancel_left, List.getElem?_append_left (by simp; omega)]
     exact hj
   · exact (Only.setRow w g _).mono fun k _ e => ⟨hp, _, rfl, e.symm⟩
 · obtain rfl : u3 = 0 := by omega
   have hgr : ∀ (cells : Array Value), Only w (w.drew.alloc (.cells cells 82)) (fun k => 0 < 0 ∧ ∃ a, u1 = some a ∧ a.block = k) := fun cells => Only.of_below ((Below.drew (Below.refl w.heap.size w)).alloc (Nat.le_refl _) _)
   have hs1 : ∀ K, 1 ≤ K → 0 + K * 4 ≤ (#[m0, m1, m2, m3] ++ Builtin.zeroCells (Value.agg #[.int .i64 0, .int .i64 0, .int .i64 0, .slice none 0 0]).cells (K - 1)).size := by
    intro K hK
    rw [Array.size_append, size_zeroCells]
    show 0 + K * 4 ≤ 4 + (K - 1) * 4
    omega
   have hs2 : ∀ K j v, [m0, m1, m2, m3][j]? = some v → (#[m0, m1, m2, m3] ++ Builtin.zeroCells (Value.agg #[.int .i64 0, .int .i64 0, .int .i64 0, .slice none 0 0]).cells (K - 1))[0 + j]? = some v := by
    intro K j v hj
    have hj4 : j < 4 := (List.getElem?_eq_some_iff.1 hj).1
    rw [Nat.zero_add, Array.getElem?_append_left (by show j < 4; exact hj4)]
    simpa using hj
   have hgc : grownCap w 1 0 82 ≤ maxLen := grownCap_le_maxLen w 1 0 _ (by simp [maxLen])
   cases u1 with
   | none =>
     have hr := run_append_nil (P := Try.prog) w 116 ty 82 i0 _ Try.underlying116 hi hz0 ad 1 c [m0, m1, m2, m3] hlen hnews (by omega) (by omega) (by rw [hz2]; omega)
     exact ⟨w.heap.size, 0, _, _, _, hr, grownCap_ge w 1 0 _, hgc, heap_alloc_new w.drew _, hs1 _ (grownCap_ge w 1 0 _), hs2 _, hgr _, .inr (Nat.le_refl _)⟩
   | some b =>
     have hr := run_append_grow (P := Try.prog) w 116 ty 82 i0 _ Try.underlying116 hi hz0 b 0 0 [] (by simp) (by simp) ad 1 c [m0, m1, m2, m3] hlen hnews (by omega) (by omega) (growslice_fits (by omega) (by rw [hz2]; omega))
     simp only [Nat.zero_add, Array.empty_append] at hr
     exact ⟨w.heap.size, 0, _, _, _, hr, grownCap_ge w 1 0 _, hgc, heap_alloc_new w.drew _, hs1 _ (grownCap_ge w 1 0 _), hs2 _, hgr _, .inr (Nat.le_refl _)⟩
theorem step_app_up_drew {ops : Array Oper} {o : Oper} {a : Act} {K : Act → World → Prop} {Q : Exit → Act → World → Prop} {Z : Prop} (w : World) (hgd : o.guard = none) (s x : Operand)
 (ho : o.op = .call { callee := .builtin .append, args := #[s, x], argTypes := #[116, 116] })
 (u1 : Option Addr) (u3 : Nat) (hs : a.eval s = .slice u1 0 u3) (hm : u3 ≤ maxLen) (hrow : 0 < u3 → ∃ g o cur, u1 = some ⟨g, o, none⟩ ∧ Blk w g 82 cur ∧ o + u3 * 4 ≤ cur.size)
 (m0 m1 m2 m3 : Value) (h1 : ∀ v ∈ [m0, m1, m2, m3], v.oneCell' = true) (c : Nat) (hx : a.eval x = .slice (some ⟨w.heap.size, 0, none⟩) 1 c)
 (h : ∀ g o' u3' cur w', 1 ≤ u3' → u3' ≤ maxLen → Blk w' g 82 cur → o' + u3' * 4 ≤ cur.size → (∀ j v, [m0, m1, m2, m3][j]? = some v → cur[o' + j]? = some v) → Only w w' (fun k => 0 < u3 ∧ ∃ a, u1 = some a ∧ a.block = k) → ((0 < u3 ∧ ∃ a, u1 = some a ∧ a.block = g) ∨ w.heap.size ≤ g) → K (a.put o.dst (.slice (some ⟨g, o', none⟩) 1 u3')) w') :
 if Region.wanted o (yielded ops a.tmps) = true then Oper.wp Try.prog o a ((w.alloc (.cells #[m0, m1, m2, m3] 82)).drew) K Q else Z := by
 have hw : Region.wanted o (yielded ops a.tmps) = true := by simp [Region.wanted, hgd]
 rw [if_pos hw]
 obtain ⟨g, o', u3', cur, w', hr, k1, k2, k3, k4, k5, k6, k7⟩ := run_app_up ((w.alloc (.cells #[m0, m1, m2, m3] 82)).drew) u1 u3 hm (fun hp => by
  obtain ⟨g, o, cur, e1, e2, e3⟩ := hrow hp
  exact ⟨g, o, cur, e1, (e2.alloc _).drew, e3⟩) ⟨w.heap.size, 0, none⟩ c m0 m1 m2 m3 (fun j v hj => by
  have e1 : (w.alloc (.cells #[m0, m1, m2, m3] 82)).heap[w.heap.size]? = some (.cells #[m0, m1, m2, m3] 82) := heap_alloc_new w _
  rw [add0]
  show (w.alloc (.cells #[m0, m1, m2, m3] 82)).cell? _ = _
  rw [cell_of_row _ _ j _ _ _ e1]
  simpa using hj) h1 o.type
 unfold Oper.wp execOp
 simp only [ho, resolve, invoke, builtin, Sem.run_bind, Sem.run_pure, Result.andThen_ok, List.map_toArray, List.map_cons, List.map_nil, hs, hx, hr]
 have hsz : w.heap.size ≤ ((w.alloc (.cells #[m0, m1, m2, m3] 82)).drew).heap.size := by show w.heap.size ≤ (w.alloc _).heap.size; simp
 exact h g o' u3' cur w' k1 k2 k3 k4 k5 ((Only.alloc w _).trans ((Only.drew _).trans k6)) (k7.imp id fun hg => Nat.le_trans hsz hg)
theorem upB_of {u : Sl} {k : Nat} (h : 0 < u.2.2 ∧ ∃ a, u.1 = some a ∧ a.block = k) : upB u = some k := by
 obtain ⟨h1, a, h2, h3⟩ := h
 unfold upB
 rw [if_neg (by omega), h2, ← h3]
 rfl
theorem WdM.say {V v1 : World} {F : Nat → Prop} {q sq gs cap : Nat} {E : List (Sl × Sl × Sl)} {sp : List Value} {s : Sh} {X : List St} {put edits : Int} (hM : WdM V F q sq gs cap E sp s X put edits) {i : Nat} {x : St} {a : Sl × Sl × Sl} (hx : X[i]? = some x) (ha : E[i]? = some a) (hup : x.up = []) {d : Sl} (hd : DtW V F d x.c.sent)
 {g o' u3' : Nat} {cur : Array Value} (k1 : 1 ≤ u3') (k2 : u3' ≤ maxLen) (k3 : Blk v1 g 82 cur) (k4 : o' + u3' * 4 ≤ cur.size) (k5 : ∀ j v, [Value.int .i64 x.c.rev, .int .i64 x.c.who, .int .i64 x.c.seq, .slice d.1 d.2.1 d.2.2][j]? = some v → cur[o' + j]? = some v)
 (k6 : Only V v1 (fun k => 0 < a.2.2.2.2 ∧ ∃ ad, a.2.2.1 = some ad ∧ ad.block = k)) (k7 : (0 < a.2.2.2.2 ∧ ∃ ad, a.2.2.1 = some ad ∧ ad.block = g) ∨ V.heap.size ≤ g) :
 WdM (v1.setCell ⟨gs, i * 10 + 8, none⟩ (.slice (some ⟨g, o', none⟩) 1 u3')) F q sq gs cap (E.set i (a.1, a.2.1, (some ⟨g, o', none⟩, 1, u3'))) sp s (X.set i (sayS x)) put edits ∧
  (∀ z, upB (some ⟨g, o', none⟩, 1, u3') = some z → upB a.2.2 = some z ∨ V.heap.size ≤ z) ∧ Only V (v1.setCell ⟨gs, i * 10 + 8, none⟩ (.slice (some ⟨g, o', none⟩) 1 u3')) (fun k => k = gs ∨ upB a.2.2 = some k) := by
 have hss := hM.ss i x a hx ha
 have k6' : Only V v1 (fun k => k = gs ∨ upB a.2.2 = some k) := k6.mono fun k _ hk => .inr (upB_of hk)
 have o2 : Only v1 (v1.setCell ⟨gs, i * 10 + 8, none⟩ (.slice (some ⟨g, o', none⟩) 1 u3')) (fun k => k = gs ∨ upB a.2.2 = some k) := (Only.setSelf v1 gs _ _).mono fun k _ hk => .inl hk
 have oo := k6'.trans o2
 have hgF : ¬ F g := by
  rcases k7 with hk | hk
  · exact (upB_blk hss.u (upB_of hk)).1
  · intro hf; have := hM.flt g hf; omega
 have hne : ∀ k, upB a.2.2 = some k → k ≠ gs := fun k hk e => by
  obtain ⟨_, c, hc⟩ := upB_blk hss.u hk
  exact Blk.ne_ hc hM.kg (by decide) e
 have kg1 := hM.kg.only k6 (fun hk => hne gs (upB_of hk) rfl)
 have hggs : g ≠ gs := Blk.ne_ k3 kg1 (by decide)
 have hS : ∀ k, (k = gs ∨ upB a.2.2 = some k) → F k ∨ ∃ cs t, Blk V k t cs ∧ t ≠ 88 := by
  rintro k (hk | hk)
  · exact .inr ⟨_, _, hk ▸ hM.kg, by decide⟩
  · obtain ⟨_, c, hc⟩ := upB_blk hss.u hk
    exact .inr ⟨_, _, hc, by decide⟩
 have hub : upB (some ⟨g, o', none⟩, 1, u3') = some g := by
  unfold upB
  rw [if_neg (by simp only; omega)]
  rfl
 refine ⟨hM.seat hx ha oo ?_ ⟨hss.s.only oo hS, hss.h.only oo hS, ?_⟩ ?_, ?_, oo⟩
 · have := kg1.set_ (i * 10 + 8) (.slice (some ⟨g, o', none⟩) 1 u3')
   rw [rowW_cell (x' := sayS x) (a' := (a.1, a.2.1, (some ⟨g, o', none⟩, 1, u3'))) hx ha hM.le 8 _ (by decide) rfl] at this
   exact this
 · refine ⟨k2, .inr ⟨(x.c.rev, x.c.who, x.c.seq, x.c.sent), d, g, o', cur, ?_, rfl, rfl, k1, hgF, k3.far (p := ⟨gs, i * 10 + 8, none⟩) hggs _, k4, k5 0 _ rfl, k5 1 _ rfl, k5 2 _ rfl, k5 3 _ rfl, hd.only oo hS⟩⟩
   show x.up ++ _ = _
   rw [hup]
   rfl
 · intro z hz
   rw [hub] at hz
   injection hz with hz
   subst hz
   rcases k7 with hk | hk
   · exact .inl (upB_of hk)
   · exact .inr hk
 · intro z hz
   rw [hub] at hz
   injection hz with hz
   subst hz
   rcases k7 with hk | hk
   · exact .inl (upB_of hk)
   · exact .inr hk
theorem client_rng {w : World} {gs o : Nat} {x : St} {a : Sl × Sl × Sl} (h : ∀ j, j < 10 → w.cell? ⟨gs, o + j, none⟩ = (stc x a)[j]?) : w.rangeAt gs o [.int .i64 x.c.who, .int .i64 x.c.rev, .int .i64 x.c.seq, .string x.c.text, .bool x.c.fly, .slice a.1.1 a.1.2.1 a.1.2.2, .bool x.c.wait, .slice a.2.1.1 a.2.1.2.1 a.2.1.2.2] := by
 intro j v hj
 have hj8 : j < 8 := (List.getElem?_eq_some_iff.1 hj).1
 rw [h j (by omega)]
 rw [show stc x a = [.int .i64 x.c.who, .int .i64 x.c.rev, .int .i64 x.c.seq, .string x.c.text, .bool x.c.fly, .slice a.1.1 a.1.2.1 a.1.2.2, .bool x.c.wait, .slice a.2.1.1 a.2.1.2.1 a.2.1.2.2] ++ [.slice a.2.2.1 a.2.2.2.1 a.2.2.2.2, .int .i64 x.told] from rfl, List.getElem?_append_left hj8]
 exact hj
theorem own_n {w : World} {B : Nat} {A : Option Addr} {n c : Nat} {l : List Pt} (h : OwnP w B (.slice A n c) l) : n = l.length := by
 obtain ⟨A', c', e⟩ := h.form
 injection e
theorem wsay_P (w : World) (P : Nat → Prop) (q : Nat) (s : Sh) (X : List St) (put edits : Int) (h : WdP w P q s X put edits) (i : Nat) (x : St) (hx : X[i]? = some x) (hf : x.c.fly = true) (hup : x.up = []) (hck : CkOk x.c) :
 Calls Try.prog 73 #[.pointer (some ⟨q, 0, none⟩), .int .i64 i] w fun e w' => e = .returned (.tuple #[]) ∧ WdP w' (grow P w w') q s (X.set i (sayS x)) put edits ∧ Only w w' P := by
 obtain ⟨F, sq, gs, cap, E, sp, h, hF, hBq, hBg, hBu⟩ := h
 obtain ⟨N, hN⟩ : ∃ N, X.length = N := ⟨_, rfl⟩
 have hkq := h.kq
 have hc1 := h.c1
 have hc2 := h.c2
 rw [hN] at hkq hc1
 have hcp : (N : Int) ≤ (cap : Int) := by omega
 have hcm : (cap : Int) ≤ 9223372036854775807 := by simp only [maxLen] at hc2; omega
 have hN0 : (0 : Int) ≤ (N : Int) := by omega
 have q0 : w.cell? ⟨q, 0, none⟩ = some (.pointer (some ⟨sq, 0, none⟩)) := hkq.cell 0
 have q1 : w.cell? ⟨q, 1, none⟩ = some (.slice (some ⟨gs, 0, none⟩) N cap) := hkq.cell 1
 have lq := hkq.lt
 have lg := h.kg.lt
 have hiN : i < N := by rw [← hN]; exact (List.getElem?_eq_some_iff.1 hx).1
 have hi0 : (0 : Int) ≤ (i : Int) := by omega
 have hiN' : (i : Int) < (N : Int) := by omega
 obtain ⟨⟨⟨a1, a2, a3⟩, ⟨b1, b2, b3⟩, ⟨u1, u2, u3⟩⟩, ha, hs, hat⟩ := h.at_ hx
 obtain ⟨t1, t2⟩ := ckok_txt hck
 obtain ⟨n1, n2⟩ := ckok_len hck
 have hc_ := cout_good x.c (a1, a2, a3) (b1, b2, b3) w hck (rdS_ hs.s.1 t1) (rdS_ hs.h.1 t2) (by have := own_n hs.s.1; simp only at this ⊢; omega) hf
 unfold mgv clv clc at hc_
 simp only at hc_
 have Hc_ := Lib.hid hc_
 have Hr := Lib.hid (client_rng hat)
 have HM := Lib.hid h
 have HX := Lib.hid hx
 have HA := Lib.hid ha
 have HS := Lib.hid hs
 have HF := Lib.hid hF
 have HBq := Lib.hid hBq
 have HBg := Lib.hid hBg
 have HBu := Lib.hid hBu
 have HUP := Lib.hid hup
 have HNN := Lib.hid hN
 have hrow : u2 = 0 ∧ u3 ≤ maxLen ∧ (0 < u3 → ∃ g o cur, u1 = some ⟨g, o, none⟩ ∧ ¬ F g ∧ Blk w g 82 cur ∧ o + u3 * 4 ≤ cur.size) := by
  have hu := hs.u
  rcases hu.2 with ⟨_, e2, e3⟩ | ⟨m, d_, g_, o_, cur_, e1, _⟩
  · exact ⟨e2, hu.1, e3⟩
  · rw [hup] at e1; cases e1
 obtain ⟨hu2, hu3, hrow⟩ := hrow
 subst hu2
 have HU3 := Lib.hid hu3
 have HROW := Lib.hid hrow
 clear hc_ h hx ha hs hat hkq hc1 hc2 hN hF hBq hBg hBu hup hck hf t1 t2 n1 n2 hu3 hrow
 go_enter Try.func73, Try.ntmps73
 go_wp2_with (first | (refine wpList_load_mid rfl _ (.tmp 13) rfl gs (i * 10) rfl [.int .i64 x.c.who, .int .i64 x.c.rev, .int .i64 x.c.seq, .string x.c.text, .bool x.c.fly, .slice a1 a2 a3, .bool x.c.wait, .slice b1 b2 b3] _ Hr.out Try.underlying92 rfl client_info ?_))
 refine Hc_.out.mono ?_
 rintro e w1 ⟨⟨d1, d2, d3⟩, rfl, hod, hb1⟩
 simp only at hod
 have HOD := Lib.hid hod
 have Hb1 := Lib.hid hb1
 clear Hc_ Hr hod hb1 q0 q1 lq lg
 go_upto_region 1 with (fail)
 have kz := Blk.new w1 82 #[.int .i64 x.c.rev, .int .i64 x.c.who, .int .i64 x.c.seq, .slice d1 d2 d3]
 have hal := (Below.refl w1.heap.size w1).alloc (Nat.le_refl _) (.cells #[.int .i64 x.c.rev, .int .i64 x.c.who, .int .i64 x.c.seq, .slice d1 d2 d3] 82)
 obtain ⟨V, hV⟩ : ∃ V, w1.alloc (.cells #[.int .i64 x.c.rev, .int .i64 x.c.who, .int .i64 x.c.seq, .slice d1 d2 d3] 82) = V := ⟨_, rfl⟩
 rw [hV] at kz hal ⊢
 obtain ⟨z, hz⟩ : ∃ z, w1.heap.size = z := ⟨_, rfl⟩
 have hbV : Below w.heap.size w V := Hb1.out.trans (hal.mono Hb1.out.size)
 have hod2 : DtW V F (d1, d2, d3) x.c.sent := ⟨(own_base (own_below HOD.out hal) (Nat.zero_le _)), fun k hk hf => by
  have h1 := own_ge HOD.out k hk
  have h2 := HM.out.flt k hf
  omega⟩
 have hMV := HM.out.below hbV
 rw [hz] at kz ⊢
 have HOD2 := Lib.hid hod2
 have HMV := Lib.hid hMV
 have HBV := Lib.hid hbV
 have hsV := HMV.out.ss i x _ HX.out HA.out
 have hrV : 0 < u3 → ∃ g o cur, u1 = some ⟨g, o, none⟩ ∧ Blk V g 82 cur ∧ o + u3 * 4 ≤ cur.size := fun hp => by
  obtain ⟨g, o, cur, e1, _, e3, e4⟩ := HROW.out hp
  exact ⟨g, o, cur, e1, e3.below hbV e3.lt, e4⟩
 have HRV := Lib.hid hrV
 have hne : ¬ (0 < u3 ∧ ∃ a, u1 = some a ∧ a.block = gs) := fun hk => by
  obtain ⟨_, c, hc⟩ := upB_blk hsV.u (upB_of hk)
  exact Blk.ne_ hc HMV.out.kg (by decide) rfl
 have HNE := Lib.hid hne
 have hnq : ¬ (0 < u3 ∧ ∃ a, u1 = some a ∧ a.block = q) := fun hk => by
  obtain ⟨_, c, hc⟩ := upB_blk hsV.u (upB_of hk)
  exact Blk.ne_ hc HMV.out.kq (by decide) rfl
 have HNQ := Lib.hid hnq
 have row8 : (rowW X E ++ sp).toArray[i * 10 + 8]? = some (.slice u1 0 u3) := by
  obtain ⟨a, e1, _, e2⟩ := HMV.out.at_ HX.out
  rw [HA.out] at e1
  injection e1 with e1
  subst e1
  exact (HMV.out.kg.cell _).symm.trans (e2 8 (by decide))
 have HR8 := Lib.hid row8
 have q1 : V.cell? ⟨q, 1, none⟩ = some (.slice (some ⟨gs, 0, none⟩) N cap) := (HMV.out.kq.cell 1).trans (by rw [HNN.out]; rfl)
 have lq := HMV.out.kq.lt
 have lg := HMV.out.kg.lt
 have e8 : V.cell? ⟨gs, i * 10 + 8, none⟩ = some (.slice u1 0 u3) := (HMV.out.kg.cell _).trans row8
 have c0 := kz.cell 0
 have c1 := kz.cell 1
 have c2 := kz.cell 2
 have c3 := kz.cell 3
 have lz := kz.lt
 clear hal hV hz hbV hod2 hMV hsV hrV hne hnq row8 kz HOD Hb1 HROW
 go_region_law (first | (refine step_app_up_drew V rfl (.tmp 30) (.tmp 32) rfl u1 u3 (by simp [Act.eval, Act.put]) HU3.out HRV.out (.int .i64 x.c.rev) (.int .i64 x.c.who) (.int .i64 x.c.seq) (.slice d1 d2 d3) (by simp [Value.oneCell']) 1 (by simp [Act.eval, Act.put]) ?_; intro g o' u3' cur v1 k1 k2 k3 k4 k5 k6 k7; have kg1 := HMV.out.kg.only k6 HNE.out; have d8 := kg1.cell (i * 10 + 8); rw [HR8.out] at d8; have f8 := kg1.frozen (i * 10 + 8); have l8 := kg1.lt; have kq1 := HMV.out.kq.only k6 HNQ.out; have dq1 : v1.cell? ⟨q, 1, none⟩ = some (.slice (some ⟨gs, 0, none⟩) N cap) := (kq1.cell 1).trans (by rw [HNN.out]; rfl); have lq1 := kq1.lt))
 all_goals
  go_end0
  obtain ⟨r1, r2, r3⟩ := HMV.out.say HX.out HA.out HUP.out HOD2.out k1 k2 k3 k4 k5 k6 k7
  have hwV := HBV.out.size
  have hoV : Only w (v1.setCell ⟨gs, i * 10 + 8, none⟩ (.slice (some ⟨g, o', none⟩) 1 u3')) P := (Only.of_below HBV.out).trans (r3.mono fun k _ hk => by
   rcases hk with hk | hk
   · rw [hk]; exact HBg.out
   · exact HBu.out _ _ HA.out k hk)
  refine ⟨rfl, ⟨F, sq, gs, cap, _, sp, r1, fun k hk => .inl (HF.out k hk), .inl HBq.out, .inl HBg.out, ?_⟩, hoV⟩
  intro j b hb z hz
  by_cases hj : j = i
  · have hjX : j < (X.set i (sayS x)).length := by rw [List.length_set, hj]; exact (List.getElem?_eq_some_iff.1 HX.out).1
    obtain ⟨_, cur9, hc9⟩ := upB_blk (r1.ss j _ b (List.getElem?_eq_getElem hjX) hb).u hz
    subst hj
    rw [List.getElem?_set_self (by rw [HMV.out.le]; exact (List.getElem?_eq_some_iff.1 HX.out).1)] at hb
    injection hb with hb
    subst hb
    rcases r2 z hz with h9 | h9
    · exact .inl (HBu.out _ _ HA.out z h9)
    · exact .inr ⟨by omega, hc9.lt⟩
  · rw [List.getElem?_set_ne (Ne.symm hj)] at hb
    exact .inl (HBu.out j b hb z hz)
theorem szP_snoc (l : List Pt) (p : Pt) : szP (l ++ [p]) = szP l + (p.2.2.size : Int) := by
 induction l with
 | nil => simp [szP]
 | cons q l ih => simp only [List.cons_append, szP, ih]; omega
theorem szP_le : ∀ (l : List Pt) (k : Nat), szP (l.take k) ≤ szP l
 | [], k => by simp [szP]
 | p :: l, 0 => by
   have : ∀ l : List Pt, 0 ≤ szP l := by
    intro l
    induction l with
    | nil => exact Int.le_refl _
    | cons p l ih => simp only [szP]; omega
   have := this (p :: l)
   simpa [szP] using this
 | p :: l, k + 1 => by
   have := szP_le l k
   simp only [List.take_succ_cons, szP]
   omega
theorem wputs_any (d : List Pt) (A : Option Addr) (n c B : Nat) (w : World) (h : RdP w B A n c d) (hB : B ≤ w.heap.size) (hk : chk d = 0) :
 Calls Try.prog 71 #[.slice A n c] w fun e w' => e = .returned (.int .i64 (nP (units d) : Nat)) ∧ Below w.heap.size w w' := by
 have hsz := nP_units d (chk_parts hk).2.2.1
 have hle : nP (units d) ≤ 500 := by have := nP_le (units d); have := (chk_parts hk).2.2.2.2.1; omega
 have Hd := Lib.hid (h.more hB)
 have hnd : n = d.length := h.1
 have HSZ := Lib.hid hsz
 have HLE := Lib.hid hle
 have HND := Lib.hid hnd
 have hn1 : n ≤ 1600 := by have := (chk_parts hk).1; omega
 have hn0 : (0 : Int) ≤ (n : Int) := by omega
 have HB0 : Hid (Below w.heap.size w w) := Lib.hid (Below.refl _ _)
 clear h hB hk hsz hle hnd
 go_enter Try.func71, Try.ntmps71
 go_upto_region 3 with (fail)
 go_loopw [3, 5, 8] (fun nv x5 iv wr => ∃ (j : Nat) (S : Int), j ≤ n ∧ iv = .int .i64 j ∧ nv = .int .i64 S ∧ Hid (S = szP (d.take j)) ∧ Hid (Below w.heap.size w wr)) (fun _ _ iv _ => n - (intOf iv).toNat)
 case atStart => exact ⟨0, 0, by omega, rfl, rfl, Lib.hid (by simp [szP]), HB0⟩
 case round =>
  clear HB0
  obtain ⟨j, S, hj, rfl, rfl, HS, HB⟩ := hrel
  by_cases hlt : j < n
  · obtain ⟨b, o, rfl, hbl, d0, d1, d2⟩ := (Hd.out.step HB.out).at_ j hlt
    have hjl : j < d.length := by have := HND.out; omega
    have htk : d.take (j + 1) = d.take j ++ [d[j]] := List.take_succ_eq_append_getElem hjl
    have hst : szP (d.take (j + 1)) = S + ((d[j]).2.2.size : Int) := by rw [htk, szP_snoc, ← HS.out]
    have hs1 := szP_le d (j + 1)
    have hs0 : 0 ≤ S := by
     rw [HS.out]
     have : ∀ l : List Pt, 0 ≤ szP l := by
      intro l
      induction l with
      | nil => exact Int.le_refl _
      | cons p l ih => simp only [szP]; omega
     exact this _
    have hmx : S + ((d[j]).2.2.size : Int) ≤ 500 := by rw [← hst]; have := HSZ.out; have := HLE.out; omega
    obtain ⟨f, hf⟩ : ∃ f, d[j] = f := ⟨_, rfl⟩
    rw [hf] at d0 d1 d2 hst hmx
    obtain ⟨ra, rb, t⟩ := f
    simp only at d0 d1 d2 hst hmx
    have HST := Lib.hid hst
    have hj0 : (0 : Int) ≤ (j : Int) := by omega
    have hjn : (j : Int) < (n : Int) := by omega
    have hbw : b < wr.heap.size := hbl
    have kz := Blk.new wr 88 #[.int .i64 ra, .int .i64 rb, .string t]
    have hal := (Below.refl wr.heap.size wr).alloc (Nat.le_refl _) (.cells #[.int .i64 ra, .int .i64 rb, .string t] 88)
    have HB1 := Lib.hid (HB.out.trans (hal.mono HB.out.size))
    have z2 := kz.cell 2
    have lz := kz.lt
    have hwr : IntKind.i64.wrap (S + (t.size : Int)) = S + (t.size : Int) := IntWalk.i64_in _ (by omega)
    clear htk hst hf kz hal hs1 hbl HB HS
    go_wp2_with fail
    go_roundw
    case rel => exact ⟨j + 1, S + (t.size : Int), by omega, by go_num, by first | rfl | go_num, Lib.hid HST.out.symm, HB1⟩
    case measure => simp [intOf]; omega
  · obtain rfl : j = n := by omega
    have hS : S = (nP (units d) : Nat) := by rw [HS.out, List.take_of_length_le (by have := HND.out; omega)]; exact HSZ.out.symm
    have HS2 := Lib.hid hS
    clear hS HS
    go_wp2_with fail
    go_ret
    have hS9 := HS2.out
    subst hS9
    exact ⟨rfl, HB.out⟩
end Go.Proofs.Ytokngfinnieccaa
