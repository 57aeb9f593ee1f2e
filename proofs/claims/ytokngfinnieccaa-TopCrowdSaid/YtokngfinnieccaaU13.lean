/- Contract of blame.Of. Contracts of hot.Rev, flat and Head. Contract of hot.Read. -/
import Derived.Test.YtokngfinnieccaaU4
import Derived.Test.YtokngfinnieccaaU12
import Derived.IntWalk
namespace Go.Proofs.Ytokngfinnieccaa
open Go.ChangeShapes Go.WideShapes Go.RowKit
set_option linter.unusedVariables false
set_option linter.unusedSimpArgs false
set_option maxRecDepth 100000
set_option maxHeartbeats 4000000
theorem ic_take (l : List Int) (k : Nat) : ic (l.take k) = (ic l).take k := by simp [ic, List.map_take]
theorem ic_drop (l : List Int) (k : Nat) : ic (l.drop k) = (ic l).drop k := by simp [ic, List.map_drop]
theorem RdI.take {w : World} {B n c : Nat} {A : Option Addr} {l : List Int} (h : RdI w B A n c l) (k : Nat) (hk : k ≤ n) : RdI w B A k c (l.take k) := by
 obtain ⟨h0, hr⟩ := h
 refine ⟨by rw [List.length_take]; omega, by have := hr.1; omega, hr.2.1, by rw [ic_len, List.length_take]; omega, fun h1 => ?_⟩
 obtain ⟨b, o, e, hb, hc⟩ := hr.2.2.2 (by omega)
 refine ⟨b, o, e, hb, fun j u hj => hc j u ?_⟩
 rw [ic_take, List.getElem?_take] at hj
 split at hj
 · exact hj
 · cases hj
theorem RdI.builtS (w : World) (cs : Array Value) (l : List Int) (n : Nat) (hn : n = l.length) (hc : cs.toList = ic l) (hm : n ≤ maxLen) : RdI (w.alloc (.cells cs 3)) (w.alloc (.cells cs 3)).heap.size (some ⟨w.heap.size, 0, none⟩) n n l := by
 have := RdI.built w cs l n hn hc hm
 rwa [show w.heap.size + 1 = (w.alloc (.cells cs 3)).heap.size by simp] at this
theorem RdI.caps {w : World} {B n c : Nat} {A : Option Addr} {l : List Int} (h : RdI w B A n c l) : n ≤ c ∧ c ≤ 9223372036854775807 := by
 have h1 := h.2.1; have h2 := h.2.2.1; unfold maxLen at h2; exact ⟨h1, h2⟩
theorem RdI.rest {w : World} {B n c : Nat} {A : Option Addr} {l : List Int} (h : RdI w B A n c l) (k : Nat) (hk : k ≤ n) (A' : Option Addr) (hA : A' = if c = k then A else Option.map (fun x : Addr => x.add k) A) : RdI w B A' (n - k) (c - k) (l.drop k) := by
 have hcp := h.caps
 obtain ⟨h0, hr⟩ := h
 refine ⟨by rw [List.length_drop]; omega, by omega, by have := hr.2.1; omega, by rw [ic_len, List.length_drop]; omega, fun h1 => ?_⟩
 obtain ⟨b, o, e, hb, hc⟩ := hr.2.2.2 (by omega)
 refine ⟨b, o + k, ?_, hb, fun j u hj => ?_⟩
 · rw [hA, if_neg (by omega), e]
   simp only [Option.map_some, Addr.add]
   by_cases h2 : k = 0
   · simp [h2]
   · simp [h2]
 · rw [ic_drop, List.getElem?_drop] at hj
   have := hc _ u hj
   rwa [← Nat.add_assoc] at this
theorem wpList_app_intsG {ops : Array Oper} {rest : List Oper} {o : Oper} {a : Act} {Q : Exit → Act → World → Prop} (w : World) (hgd : o.guard = none) (s x : Operand)
 (ho : o.op = .call { callee := .builtin .append, args := #[s, x], argTypes := #[33, 33] })
 (B : Nat) (v : Value) (l : List Int) (hs : a.eval s = v) (hown : OwnI w B v l)
 (A : Option Addr) (m c B' : Nat) (l' : List Int) (hx : a.eval x = .slice A m c) (hr : RdI w B' A m c l')
 (hn : l.length + m ≤ 4000000) (hB : B ≤ w.heap.size)
 (h : ∀ v' w', OwnI w' B v' (l ++ l') → Below B w w' → w.grownBy w' v.ownBlock → wpList Try.prog ops Q rest (a.put o.dst v') w') :
 wpList Try.prog ops Q (o :: rest) a w := by
 obtain ⟨i0, hi, hz0, hz1, hz2⟩ := info_parts Try.info_int
 refine wpList_append_any w hgd s x 33 ho B 3 i0 _ 1 8 Try.underlying33 hi hz0 hz1 hz2 rfl (by omega) v _ _ hs hown B' A m c (ic l') hx ?_ ?_ (by simp only [maxLen]; omega) (by omega) hB ?_
 · refine ⟨by rw [ic_len, hr.1]; omega, fun h0 => ?_⟩
   obtain ⟨b, o', e, hb, hc⟩ := hr.2.2.2.2 h0
   refine ⟨_, e, hb, fun j u hj => ?_⟩
   have := hc j u hj
   by_cases h00 : j = 0
   · subst h00; simpa [Addr.add] using this
   · simpa [Addr.add, h00] using this
 · intro u hu
   unfold ic at hu
   obtain ⟨p, _, rfl⟩ := List.mem_map.1 hu
   rfl
 · intro v' w' h2 h3 h4
   refine h v' w' ?_ (below_grown h3 hB (own_ge hown)) h3
   unfold OwnI
   have e : ic (l ++ l') = ic l ++ ic l' := by simp [ic]
   rw [e, List.length_append, ← hr.1]
   exact h2
theorem ic_rep (n : Nat) : (madeCells #[.int .i64 0] n).toList = ic (List.replicate n 0) := by
 rw [toList_madeCells_one]
 simp [ic]
theorem blame_good (base : ByteArray) (l : List Rv) (A : Option Addr) (n c B : Nat) (w : World) (h : RdR w B A n c l) (hB : B ≤ w.heap.size) (he : txE base l = 0) (R : List Int) (hR : blame base l = R) :
 Calls Try.prog 18 #[.string base, .slice A n c] w fun e w' => ∃ A1 n1 c1, e = .returned (.tuple #[.slice A1 n1 c1, .int .i64 0]) ∧ RdI w' w'.heap.size A1 n1 c1 R ∧ Below w.heap.size w w' := by
 have hp := txE_parts he
 have hc := rcheck_any base l A n c B w h hB (by omega)
 rw [he] at hc
 have Hc := Lib.hid hc
 have hn : n = l.length := h.1
 have hn64 : (n : Int) ≤ 64 := by omega
 have hb5 : (base.size : Int) ≤ 500 := by omega
 have H := Lib.hid h
 have Hst : Hid (blL 0 (List.replicate base.size 0) (l.drop 0) = R ∧ txr base (l.drop 0) = 0 ∧ (List.replicate base.size (0 : Int)).length = base.size ∧ base.size ≤ 500) := Lib.hid ⟨hR, hp.2.2, by simp, hp.1⟩
 clear hc h he hp hn hR
 go_enter Try.func18, Try.ntmps18
 go_wp2_with fail
 refine Hc.out.mono ?_
 rintro e w1 ⟨rfl, hb1⟩
 have hs1 := hb1.size
 obtain ⟨i0, hi, hz0, hz1, hz2⟩ := info_parts Try.info_int
 go_wp2_with (first | (at_make; go_loud (refine wpList_make_full _ rfl (.tmp 20) (.tmp 20) 33 rfl w.heap.size 3 i0 _ 1 Try.underlying33 hi hz0 hz1 .i64 .i64 _ _ base.size rfl rfl rfl rfl (by rw [hz2]; omega) (by simp only [maxLen]; omega) hs1 ?_)))
 intro w2 hown2 hgr2
 rw [ic_rep] at hown2
 have hown2' : OwnI w2 w.heap.size (.slice (some ⟨w1.heap.size, 0, none⟩) base.size base.size) (List.replicate base.size 0) := by
  unfold OwnI; rw [List.length_replicate]; exact hown2
 obtain ⟨A2, c2, e2, hr2⟩ := hown2'.rd
 have hw2 := hb1.trans (below_grown hgr2 hs1 (by simp))
 obtain ⟨N, hN⟩ : ∃ N, (List.replicate base.size (0 : Int)).length = N := ⟨_, rfl⟩
 rw [hN] at hr2 e2
 rw [e2]
 have Hr2 := Lib.hid hr2
 clear hr2 hown2 hown2' hgr2 hb1 e2 hN hi hz0 hz1 hz2 hs1
 go_wp2_with fail
 go_loopw [7, 8, 9, 10, 12, 24] (fun wv kv pv nv qv iv wr => ∃ (k : Nat) (A1 : Option Addr) (n1 c1 : Nat) (W : List Int) (s : ByteArray), k ≤ n ∧ iv = .int .i64 k ∧ wv = .slice A1 n1 c1 ∧ Hid (RdI wr wr.heap.size A1 n1 c1 W) ∧ Hid (blL k W (l.drop k) = R ∧ txr s (l.drop k) = 0 ∧ W.length = s.size ∧ s.size ≤ 500) ∧ Below w.heap.size w wr) (fun _ _ _ _ _ i _ => n - (intOf i).toNat)
 case atStart => exact ⟨0, _, _, _, _, base, by omega, rfl, rfl, Hr2, Hst, hw2⟩
 case round =>
  obtain ⟨k, A1, n1, c1, W, s, hk, rfl, rfl, hrW, hst, hbwr⟩ := hrel
  by_cases hlt : k < n
  · have hkl : k < l.length := by have := H.out.1; omega
    obtain ⟨b4, o4, A4, n4, c4, rfl, hb4, d0, d1, d2, hrd⟩ := (H.out.below (hbwr.mono hB)).at_ k hlt
    have hdr : l.drop k = l[k] :: l.drop (k + 1) := List.drop_eq_getElem_cons hkl
    rw [hdr] at hst
    have hstep := Lib.hid (bl_step hst.out)
    obtain ⟨r, hr⟩ : ∃ r, r = l[k] := ⟨_, rfl⟩
    rw [← hr] at hst hstep d0 d1 hrd
    clear hr hdr hst
    obtain ⟨ra, rb, d⟩ := r
    simp only at d0 d1 d2 hrd hstep
    have hk0 : (0 : Int) ≤ (k : Int) := by omega
    have hkn : (k : Int) < (n : Int) := by omega
    have hgl : b4 < wr.heap.size := by have := hbwr.size; omega
    have hw3 := hbwr.alloc hbwr.size (.cells #[.int .i64 ra, .int .i64 rb, .slice A4 n4 c4] 30)
    have hrd' := (hrd.more (show B ≤ wr.heap.size by have := hbwr.size; omega)).stepA (.cells #[.int .i64 ra, .int .i64 rb, .slice A4 n4 c4] 30)
    have hrW' : RdI (wr.alloc (.cells #[.int .i64 ra, .int .i64 rb, .slice A4 n4 c4] 30)) (wr.alloc (.cells #[.int .i64 ra, .int .i64 rb, .slice A4 n4 c4] 30)).heap.size A1 n1 c1 W := (hrW.out.alloc (Nat.le_refl _) _).more (by simp)
    have Hrd := Lib.hid hrd'
    have HrW := Lib.hid hrW'
    have hck := hstep.out.1
    have HF := Lib.hid (chk_parts hck).2.2.2.2.2
    have hn4 : (n4 : Int) ≤ 1600 := by have := (chk_parts hck).1; have := hrd'.1; omega
    obtain ⟨X, hX⟩ : ∃ X, ap (fun _ => (k : Int) + 1) (units d) W = X := ⟨_, rfl⟩
    rw [hX] at hstep
    have HX : Hid (([] : List Int) ++ ap (fun _ => (k : Int) + 1) (units (d.drop 0)) W = X ∧ nI (units (d.drop 0)) = W.length) := Lib.hid ⟨hX, hstep.out.2.1⟩
    have hX5 : X.length ≤ 500 := hstep.out.2.2.1
    clear hrd hrd' hrW' hck hX
    go_wp2_with fail
    obtain ⟨W3, hW3⟩ : ∃ W3, wr.alloc (.cells #[.int .i64 ra, .int .i64 rb, .slice A4 n4 c4] 30) = W3 := ⟨_, rfl⟩
    rw [hW3] at Hrd HrW hw3 ⊢
    clear hW3 d0 d1 d2
    go_loopw [7, 10, 12, 32] (fun wv nv qv iv wr2 => ∃ (j : Nat) (A5 : Option Addr) (n5 c5 : Nat) (V acc : List Int), j ≤ n4 ∧ iv = .int .i64 j ∧ wv = .slice A5 n5 c5 ∧ Hid (RdI wr2 W3.heap.size A5 n5 c5 V) ∧ Hid (OwnI wr2 W3.heap.size nv acc) ∧ Hid (acc ++ ap (fun _ => (k : Int) + 1) (units (d.drop j)) V = X ∧ nI (units (d.drop j)) = V.length) ∧ Below W3.heap.size W3 wr2) (fun _ _ _ i _ => n4 - (intOf i).toNat)
    case atStart => exact ⟨0, _, _, _, _, [], by omega, rfl, rfl, HrW, Lib.hid (OwnI.nil _ _), HX, Below.refl _ _⟩
    case round =>
     obtain ⟨j, A5, n5, c5, V, acc, hj, rfl, rfl, hrV, hown, hap, hbw⟩ := hrel
     by_cases hlt2 : j < n4
     · have hjl : j < d.length := by have := Hrd.out.1; omega
       obtain ⟨b6, o6, rfl, hb6, p0, p1, p2⟩ := (Hrd.out.below hbw).at_ j hlt2
       have hbd := fit_bounds _ (HF.out d[j] (List.getElem_mem hjl))
       have hdr : d.drop j = d[j] :: d.drop (j + 1) := List.drop_eq_getElem_cons hjl
       rw [hdr] at hap
       obtain ⟨p, hp⟩ : ∃ p, p = d[j] := ⟨_, rfl⟩
       rw [← hp] at hbd hap p0 p1 p2
       clear hp hdr
       obtain ⟨kd, m, t⟩ := p
       simp only at hbd p0 p1 p2
       have hj0 : (0 : Int) ≤ (j : Int) := by omega
       have hjn : (j : Int) < (n4 : Int) := by omega
       have hws := hbw.size
       have hgl6 : b6 < wr.heap.size := by omega
       have hV5 := hrV.out.caps
       have hacc : acc.length ≤ 500 := by have := congrArg List.length hap.out.1; rw [List.length_append] at this; omega
       have hw7 := hbw.alloc hbw.size (.cells #[.int .i64 kd, .int .i64 m, .string t] 88)
       have hrV' := Lib.hid (hrV.out.alloc hws (.cells #[.int .i64 kd, .int .i64 m, .string t] 88))
       have hown' : Hid (OwnI (wr.alloc (.cells #[.int .i64 kd, .int .i64 m, .string t] 88)) W3.heap.size _ acc) := Lib.hid (World.ownsRow.alloc hown.out (.cells #[.int .i64 kd, .int .i64 m, .string t] 88))
       have HVl := Lib.hid hrV.out.1
       rcases hbd with ⟨rfl | rfl, h1, h2, rfl⟩ | ⟨rfl, rfl, h1, h2⟩
       · obtain ⟨z, rfl⟩ := Int.eq_ofNat_of_zero_le (show 0 ≤ m by omega)
         obtain ⟨q1, q2, q3⟩ := g_keep _ hap.out.1 hap.out.2
         have hV500 : z ≤ 500 := by omega
         have q3 : z ≤ n5 := by have := HVl.out; omega
         have Hq := Lib.hid (And.intro q1 q2)
         have hz0 : (0 : Int) ≤ (z : Int) := by omega
         have hzn : (z : Int) ≤ (n5 : Int) := by omega
         have hzc : (z : Int) ≤ (c5 : Int) := by omega
         have hnc : (n5 : Int) ≤ (c5 : Int) := by omega
         have htk := hrV'.out.take z (by omega)
         have Htk := Lib.hid htk
         have hal : acc.length + z ≤ 4000000 := by omega
         have hB7 : W3.heap.size ≤ (wr.alloc (.cells #[.int .i64 1, .int .i64 z, .string emp] 88)).heap.size := hw7.size
         have hcells := Blk.new wr 88 #[.int .i64 1, .int .i64 z, .string emp]
         have Hcells := Lib.hid hcells
         clear q1 q2 q3 hap hcells htk
         by_cases hcz : c5 = z
         · have hnz : n5 = z := by omega
           have hrs := hrV'.out.rest z (by omega) A5 (by rw [if_pos hcz])
           rw [hcz, hnz, Nat.sub_self] at hrs
           have Hrs := Lib.hid hrs
           rw [hcz] at Htk
           clear hrV' hrV hrs
           go_wp2_with (first | (at_builtin; refine wpList_app_intsG _ rfl (.tmp 51) (.tmp 55) rfl W3.heap.size _ acc rfl hown'.out A5 z z _ (V.take z) rfl Htk.out hal hB7 ?_; intro v8 w8 k1 k2 k3; have p81 := (Hcells.out.grown k3 (Ne.symm (own_blk_ne hown'.out Hcells.out (by decide)))).cell 1; have l81 := (Hcells.out.grown k3 (Ne.symm (own_blk_ne hown'.out Hcells.out (by decide)))).lt))
           have hw8 := hw7.trans k2
           have Hrs8 := Lib.hid (Hrs.out.below k2)
           have K1 := Lib.hid k1
           clear k1 k3 Hrs p0 p1 p2
           go_roundw
           case rel => exact ⟨j + 1, _, _, _, _, _, by omega, by go_num, rfl, Hrs8, K1, Hq, hw8⟩
           case measure => simp [intOf]; omega
         · have hrs := hrV'.out.rest z (by omega) _ rfl
           rw [if_neg hcz] at hrs
           have Hrs := Lib.hid hrs
           have hczf : (c5 = z) = False := by simp; exact hcz
           clear hrV' hrV hrs hcz
           go_wp2_with (first | (at_builtin; refine wpList_app_intsG _ rfl (.tmp 51) (.tmp 55) rfl W3.heap.size _ acc rfl hown'.out A5 z c5 _ (V.take z) rfl Htk.out hal hB7 ?_; intro v8 w8 k1 k2 k3; have p81 := (Hcells.out.grown k3 (Ne.symm (own_blk_ne hown'.out Hcells.out (by decide)))).cell 1; have l81 := (Hcells.out.grown k3 (Ne.symm (own_blk_ne hown'.out Hcells.out (by decide)))).lt))
           have hw8 := hw7.trans k2
           have Hrs8 := Lib.hid (Hrs.out.below k2)
           have K1 := Lib.hid k1
           clear k1 k3 Hrs p0 p1 p2
           go_roundw
           case rel => exact ⟨j + 1, _, _, _, _, _, by omega, by go_num, rfl, Hrs8, K1, Hq, hw8⟩
           case measure => simp [intOf]; omega
       · obtain ⟨z, rfl⟩ := Int.eq_ofNat_of_zero_le (show 0 ≤ m by omega)
         obtain ⟨q1, q2, q3⟩ := g_cut _ hap.out.1 hap.out.2
         have q3 : z ≤ n5 := by have := HVl.out; omega
         have Hq := Lib.hid (And.intro q1 q2)
         have hz0 : (0 : Int) ≤ (z : Int) := by omega
         have hzn : (z : Int) ≤ (n5 : Int) := by omega
         have hzc : (z : Int) ≤ (c5 : Int) := by omega
         have hnc : (n5 : Int) ≤ (c5 : Int) := by omega
         clear q1 q2 q3 hap
         by_cases hcz : c5 = z
         · have hnz : n5 = z := by omega
           have hrs := hrV'.out.rest z (by omega) A5 (by rw [if_pos hcz])
           rw [hcz, hnz, Nat.sub_self] at hrs
           have Hrs := Lib.hid hrs
           clear hrV' hrV hrs
           go_wp2_with fail
           go_roundw
           case rel => exact ⟨j + 1, _, _, _, _, _, by omega, by go_num, rfl, Hrs, hown', Hq, hw7⟩
           case measure => simp [intOf]; omega
         · have hrs := hrV'.out.rest z (by omega) _ rfl
           rw [if_neg hcz] at hrs
           have Hrs := Lib.hid hrs
           have hczf : (c5 = z) = False := by simp; exact hcz
           clear hrV' hrV hrs hcz
           go_wp2_with fail
           go_roundw
           case rel => exact ⟨j + 1, _, _, _, _, _, by omega, by go_num, rfl, Hrs, hown', Hq, hw7⟩
           case measure => simp [intOf]; omega
       · obtain ⟨q1, q2⟩ := g_put _ hap.out.1 hap.out.2
         have Hq := Lib.hid (And.intro q1 q2)
         have HV := Lib.hid hrV'.out
         clear q1 q2 hap hrV hrV'
         go_wp2_with fail
         obtain ⟨W7, hW7⟩ : ∃ W7, wr.alloc (.cells #[.int .i64 2, .int .i64 0, .string t] 88) = W7 := ⟨_, rfl⟩
         rw [hW7] at HV hown' hw7 ⊢
         clear hW7 p0 p1 p2
         go_loopw [10, 41] (fun nv iv wr2 => ∃ q : Nat, q ≤ t.size ∧ iv = .int .i64 q ∧ Hid (OwnI wr2 W3.heap.size nv (acc ++ List.replicate q ((k : Int) + 1))) ∧ Below W3.heap.size W7 wr2) (fun _ i _ => t.size - (intOf i).toNat)
         case atStart => exact ⟨0, by omega, rfl, by rw [List.replicate_zero, List.append_nil]; exact hown', Below.refl _ _⟩
         case round =>
          obtain ⟨q, hq, rfl, hown2, hbw2⟩ := hrel
          have hws2 := hbw2.size
          have hw7s := hw7.size
          by_cases hlt3 : q < t.size
          · have hq0 : (0 : Int) ≤ (q : Int) := by omega
            have hqt : (q : Int) < (t.size : Int) := by omega
            have hl2 : (acc ++ List.replicate q ((k : Int) + 1)).length ≤ 100000000 := by rw [List.length_append, List.length_replicate]; omega
            have hB8 : W3.heap.size ≤ wr.heap.size := by omega
            go_wp2_with (first | (at_builtin; go_loud (refine wpList_app_int _ rfl (.tmp 43) (.tmp 46) rfl W3.heap.size _ (acc ++ List.replicate q ((k : Int) + 1)) rfl hown2.out ((k : Int) + 1) 1 rfl hl2 hB8 ?_; intro v8 w8 k1 k2 k3 k4)))
            rw [List.append_assoc, ← List.replicate_succ'] at k1
            have K1 := Lib.hid k1
            clear k1 k3 k4
            go_wp2_with fail
            go_roundw
            case rel => exact ⟨q + 1, by omega, by go_num, K1, hbw2.trans k2⟩
            case measure => simp [intOf]; omega
          · have hqt : decide (q < t.size) = false := by simpa using hlt3
            obtain rfl : q = t.size := by omega
            have HV2 := Lib.hid (HV.out.below hbw2)
            have hw9 := hw7.trans hbw2
            go_wp2_with fail
            go_roundw
            case rel => exact ⟨j + 1, _, _, _, _, _, by omega, by go_num, rfl, HV2, hown2, Hq, hw9⟩
            case measure => simp [intOf]; omega
     · have hjn : decide (j < n4) = false := by simpa using hlt2
       obtain rfl : j = n4 := by omega
       have h1 := hap.out
       rw [List.drop_eq_nil_of_le (by have := Hrd.out.1; omega)] at h1
       have hV0 : V = [] := List.eq_nil_of_length_eq_zero (by rw [← h1.2]; rfl)
       subst hV0
       have hXa : acc = X := by have h2 := h1.1; simpa [units, ap] using h2
       subst hXa
       obtain ⟨A9, c9, hv9, hr9⟩ := hown.out.rd
       have hbf := hw3.trans (hbw.mono hw3.size)
       have Hr9 := Lib.hid hr9
       have Hn9 := Lib.hid hstep.out.2.2.2
       clear hown hap h1 hr9 hstep
       subst hv9
       go_wp2_with fail
       go_roundw
       case rel => exact ⟨k + 1, _, _, _, _, _, by omega, by go_num, rfl, Hr9, Hn9, hbf⟩
       case measure => simp [intOf]; omega
  · have hkn : decide (k < n) = false := by simpa using hlt
    have h1 := hst.out.1
    rw [List.drop_eq_nil_of_le (by have := H.out.1; omega)] at h1
    have hRW : W = R := h1
    subst hRW
    clear hst h1
    go_wp2_with fail
    go_ret2
    exact ⟨_, _, _, rfl, hrW.out, hbwr⟩
def frB (r : Rv) : ByteArray := ⟨(txF (frR r)).toArray⟩
theorem hrev_good (a b : Int) (d : List Pt) (A : Option Addr) (n c : Nat) (w : World) (h : RdP w w.heap.size A n c d) (he : oneE (a, b, d) = 0) :
 Calls Try.prog 86 #[.agg #[.int .i64 a, .int .i64 b, .slice A n c]] w fun e w' => e = .returned (.tuple #[.string (frB (a, b, d)), .int .i64 0]) ∧ Below w.heap.size w w' := by
 obtain ⟨p1, p2, p3, p4, p5⟩ := one_parts he
 simp only at p1 p2 p3 p4 p5
 have hput := fun w => put_okF (frR (a, b, d)) (frR_ok he) w
 have hfr : (frR (a, b, d)).1 = 2 := rfl
 obtain ⟨Bd, hBd⟩ : ∃ Bd, (frR (a, b, d)).2 = Bd := ⟨_, rfl⟩
 have hBl : Bd.data.toList = bodyR (a, b, d) := by rw [← hBd]; rfl
 have hput2 : ∀ w, Calls Try.prog 111 #[.agg #[.int .i64 2, .string Bd]] w fun e w' => e = .returned (.tuple #[.string (frB (a, b, d)), .int .i64 0]) ∧ Below w.heap.size w w' := by
  intro w
  rw [← hBd, ← hfr]
  exact hput w
 obtain ⟨FB, hFB⟩ : ∃ FB, frB (a, b, d) = FB := ⟨_, rfl⟩
 rw [hFB] at hput2 ⊢
 obtain ⟨x, rfl⟩ := Int.eq_ofNat_of_zero_le p1
 obtain ⟨y, rfl⟩ := Int.eq_ofNat_of_zero_le p3
 obtain ⟨S1, hS1⟩ : ∃ S1 : ByteArray, S1.data.toList = viC [x, y] := ⟨⟨(viC [x, y]).toArray⟩, by simp⟩
 obtain ⟨S2, hS2⟩ : ∃ S2 : ByteArray, S2.data.toList = wrL d := ⟨⟨(wrL d).toArray⟩, by simp⟩
 have hcat : S1 ++ S2 = Bd := by
  apply ba_list
  rw [bs_append, hS1, hS2, hBl]
  simp [viC, bodyR]
 have hsz : (9223372036854775807 < S1.size + S2.size) = False := by
  have h1 : S1.data.toList.length = S1.size := rfl
  have h2 : S2.data.toList.length = S2.size := rfl
  have h3 : Bd.data.toList.length ≤ 4000 := by rw [hBl]; exact body_len he
  rw [← hcat, bs_append, List.length_append] at h3
  simp; omega
 have hc := one_any x y d A n c _ _ _ (h.stepA (.cells #[.int .i64 x, .int .i64 y, .slice A n c] 30)) (Nat.le_refl _) he
 have hb0 := (Below.refl w.heap.size w).alloc (Nat.le_refl _) (.cells #[.int .i64 x, .int .i64 y, .slice A n c] 30)
 have kr := Blk.new w 30 #[.int .i64 x, .int .i64 y, .slice A n c]
 have hn := (h.stepA (.cells #[.int .i64 x, .int .i64 y, .slice A n c] 30))
 have Hc := Lib.hid hc
 have Hn := Lib.hid hn
 have Hput := Lib.hid hput2
 have HS1 := Lib.hid hS1
 have HS2 := Lib.hid hS2
 have Hk := Lib.hid p5
 have Hcat := Lib.hid hcat
 clear hc hn h he hput hput2 hS1 hS2 p5 hcat hFB hBl hBd hfr p1 p3
 go_enter Try.func86, Try.ntmps86
 go_upto_region 1 with (fail)
 obtain ⟨W, hW⟩ : ∃ W, w.alloc (.cells #[.int .i64 x, .int .i64 y, .slice A n c] 30) = W := ⟨_, rfl⟩
 rw [hW] at hb0 kr Hc Hn ⊢
 clear hW
 obtain ⟨g, hg⟩ : ∃ g, w.heap.size = g := ⟨_, rfl⟩
 rw [hg] at kr ⊢
 have c0 := kr.cell 0
 have c1 := kr.cell 1
 have c2 := kr.cell 2
 have lr := kr.lt
 go_wp2_with fail
 refine Hc.out.mono ?_
 rintro e w1 ⟨rfl, hb⟩
 replace hb0 := hb0.trans (hb.mono hb0.size)
 replace kr := kr.below hb lr
 replace Hn := Lib.hid (Hn.out.step hb)
 clear hb c0 c1 c2 Hc
 have c0 := kr.cell 0
 have c1 := kr.cell 1
 have lr := kr.lt
 have hnum := nums_good [x, y] (some ⟨w1.heap.size, 0, none⟩) 2 2 (w1.alloc (.cells #[.int .i64 x, .int .i64 y] 3)) (RdI.builtS w1 #[.int .i64 x, .int .i64 y] [(x : Int), (y : Int)] 2 rfl rfl (by unfold maxLen; omega)) (by intro z hz; simp at hz; omega) (by simp) S1 HS1.out
 have hb1 := (Below.refl w1.heap.size w1).alloc (Nat.le_refl _) (.cells #[.int .i64 x, .int .i64 y] 3)
 have Hnum := Lib.hid hnum
 clear hnum
 go_wp2_with fail
 refine Hnum.out.mono ?_
 rintro e w2 ⟨rfl, hb⟩
 have hb2 := hb1.trans (hb.mono hb1.size)
 replace hb0 := hb0.trans (hb2.mono hb0.size)
 replace kr := kr.below hb2 lr
 replace Hn := Lib.hid (Hn.out.step hb2)
 clear hb hb1 hb2 c0 c1 Hnum
 have c2 := kr.cell 2
 have lr := kr.lt
 have hwr := cwrite_good d A n c _ w2 S2 Hn.out (Nat.le_refl _) Hk.out HS2.out
 have Hwr := Lib.hid hwr
 clear hwr
 go_wp2_with fail
 refine Hwr.out.mono ?_
 rintro e w3 ⟨rfl, hb⟩
 replace hb0 := hb0.trans (hb.mono hb0.size)
 clear hb c2 Hwr lr kr
 go_wp2_with fail
 rw [Hcat.out]
 refine (Hput.out w3).mono ?_
 rintro e w4 ⟨rfl, hb⟩
 go_wp2_with fail
 go_ret2
 exact ⟨rfl, hb0.trans (hb.mono hb0.size)⟩
theorem sess_at0 (p0 p1 p2 p3 p4 p5 p6 p7 : Int × Int) (w : World) : (Instr.index 79 (.agg (tc [p0, p1, p2, p3, p4, p5, p6, p7]).toArray) (.int .i64 0)).run Try.prog w = .ok (.agg #[.int .i64 p0.1, .int .i64 p0.2]) w := by kernel_rfl
theorem sess_at1 (p0 p1 p2 p3 p4 p5 p6 p7 : Int × Int) (w : World) : (Instr.index 79 (.agg (tc [p0, p1, p2, p3, p4, p5, p6, p7]).toArray) (.int .i64 1)).run Try.prog w = .ok (.agg #[.int .i64 p1.1, .int .i64 p1.2]) w := by kernel_rfl
theorem sess_at2 (p0 p1 p2 p3 p4 p5 p6 p7 : Int × Int) (w : World) : (Instr.index 79 (.agg (tc [p0, p1, p2, p3, p4, p5, p6, p7]).toArray) (.int .i64 2)).run Try.prog w = .ok (.agg #[.int .i64 p2.1, .int .i64 p2.2]) w := by kernel_rfl
theorem sess_at3 (p0 p1 p2 p3 p4 p5 p6 p7 : Int × Int) (w : World) : (Instr.index 79 (.agg (tc [p0, p1, p2, p3, p4, p5, p6, p7]).toArray) (.int .i64 3)).run Try.prog w = .ok (.agg #[.int .i64 p3.1, .int .i64 p3.2]) w := by kernel_rfl
theorem sess_at4 (p0 p1 p2 p3 p4 p5 p6 p7 : Int × Int) (w : World) : (Instr.index 79 (.agg (tc [p0, p1, p2, p3, p4, p5, p6, p7]).toArray) (.int .i64 4)).run Try.prog w = .ok (.agg #[.int .i64 p4.1, .int .i64 p4.2]) w := by kernel_rfl
theorem sess_at5 (p0 p1 p2 p3 p4 p5 p6 p7 : Int × Int) (w : World) : (Instr.index 79 (.agg (tc [p0, p1, p2, p3, p4, p5, p6, p7]).toArray) (.int .i64 5)).run Try.prog w = .ok (.agg #[.int .i64 p5.1, .int .i64 p5.2]) w := by kernel_rfl
theorem sess_at6 (p0 p1 p2 p3 p4 p5 p6 p7 : Int × Int) (w : World) : (Instr.index 79 (.agg (tc [p0, p1, p2, p3, p4, p5, p6, p7]).toArray) (.int .i64 6)).run Try.prog w = .ok (.agg #[.int .i64 p6.1, .int .i64 p6.2]) w := by kernel_rfl
theorem sess_at7 (p0 p1 p2 p3 p4 p5 p6 p7 : Int × Int) (w : World) : (Instr.index 79 (.agg (tc [p0, p1, p2, p3, p4, p5, p6, p7]).toArray) (.int .i64 7)).run Try.prog w = .ok (.agg #[.int .i64 p7.1, .int .i64 p7.2]) w := by kernel_rfl
theorem sess_at (t : Tb) (h : t.length = 8) (k : Nat) (hk : k < 8) (w : World) : (Instr.index 79 (.agg (tc t).toArray) (.int .i64 k)).run Try.prog w = .ok (.agg #[.int .i64 (t[k]'(by omega)).1, .int .i64 (t[k]'(by omega)).2]) w := by
 match t, h with
 | [p0, p1, p2, p3, p4, p5, p6, p7], _ =>
   have hj8 : k = 0 ∨ k = 1 ∨ k = 2 ∨ k = 3 ∨ k = 4 ∨ k = 5 ∨ k = 6 ∨ k = 7 := by omega
   rcases hj8 with rfl | rfl | rfl | rfl | rfl | rfl | rfl | rfl
   · exact sess_at0 p0 p1 p2 p3 p4 p5 p6 p7 w
   · exact sess_at1 p0 p1 p2 p3 p4 p5 p6 p7 w
   · exact sess_at2 p0 p1 p2 p3 p4 p5 p6 p7 w
   · exact sess_at3 p0 p1 p2 p3 p4 p5 p6 p7 w
   · exact sess_at4 p0 p1 p2 p3 p4 p5 p6 p7 w
   · exact sess_at5 p0 p1 p2 p3 p4 p5 p6 p7 w
   · exact sess_at6 p0 p1 p2 p3 p4 p5 p6 p7 w
   · exact sess_at7 p0 p1 p2 p3 p4 p5 p6 p7 w
theorem tab_row {W : World} {g : Nat} {t : Tb} (h : Blk W g 79 (tc t).toArray) (ht : t.length = 8) : (loadVar 79 ⟨g, 0, none⟩).run Try.prog W = .ok (.agg (tc t).toArray) W :=
 run_loadVar_row (P := Try.prog) W g 79 79 _ _ _ h Try.underlying79 rfl (by rw [List.size_toArray, tc_len, ht]; exact tabS_info)
def fl (t : Tb) : List Int := t.flatMap fun p => [p.1, p.2]
theorem fl_len : ∀ t : Tb, (fl t).length = 2 * t.length
 | [] => rfl
 | p :: t => by have := fl_len t; simp only [fl, List.flatMap_cons, List.length_append, List.length_cons, List.length_nil] at this ⊢; omega
theorem hflat_any (gn bs : Int) (t : Tb) (ht : t.length = 8) (w : World) :
 Calls Try.prog 110 #[.int .i64 gn, .int .i64 bs, .agg (tc t).toArray] w fun e w' => ∃ A c, e = .returned (.slice A 18 c) ∧ RdI w' w'.heap.size A 18 c (gn :: bs :: fl t) ∧ Below w.heap.size w w' := by
 have Ht := Lib.hid ht
 have hb0 := (Below.refl w.heap.size w).alloc (Nat.le_refl _) (.cells (tc t).toArray 79)
 have kt := Blk.new w 79 (tc t).toArray
 go_enter Try.func110, Try.ntmps110
 go_upto_region 1 with (fail)
 obtain ⟨W, hW⟩ : ∃ W, w.alloc (.cells (tc t).toArray 79) = W := ⟨_, rfl⟩
 rw [hW] at hb0 kt ⊢
 clear hW
 obtain ⟨g, hg⟩ : ∃ g, w.heap.size = g := ⟨_, rfl⟩
 rw [hg] at kt hb0 ⊢
 have lt := kt.lt
 go_upto_region 2 with (fail)
 have ho : OwnI (W.alloc (.cells #[.int .i64 gn, .int .i64 bs] 3)) g (.slice (some ⟨W.heap.size, 0, none⟩) 2 2) [gn, bs] := World.ownsRow_lit W #[.int .i64 gn, .int .i64 bs] 2 (by omega) (by decide) rfl
 replace hb0 := hb0.alloc (by omega) (.cells #[.int .i64 gn, .int .i64 bs] 3)
 replace kt := kt.alloc (.cells #[.int .i64 gn, .int .i64 bs] 3)
 obtain ⟨V, hV⟩ : ∃ V, W.alloc (.cells #[.int .i64 gn, .int .i64 bs] 3) = V := ⟨_, rfl⟩
 rw [hV] at hb0 kt ho ⊢
 clear hV
 obtain ⟨z, hz⟩ : ∃ z, W.heap.size = z := ⟨_, rfl⟩
 rw [hz] at ho ⊢
 have lt := kt.lt
 have Ho := Lib.hid ho
 have Hb := Lib.hid hb0
 have Hg := Lib.hid hg
 clear ho hb0 hz hg
 go_upto_region 3 with (first | (refine wpList_load_blk rfl _ (.tmp 5) rfl g rfl _ (tab_row kt Ht.out) ?_))
 clear kt lt
 go_loopw [7, 9, 14] (fun vv q iv wr => ∃ (k n c : Nat) (A : Option Addr), k ≤ 8 ∧ iv = .int .i64 k ∧ vv = .slice A n c ∧ n = 2 * k + 2 ∧ Hid (OwnI wr g (.slice A n c) (gn :: bs :: fl (t.take k))) ∧ Hid (Below g w wr)) (fun _ _ iv _ => 8 - (intOf iv).toNat)
 case atStart => exact ⟨0, 2, 2, _, by omega, rfl, rfl, rfl, Ho, Hb⟩
 case round =>
  obtain ⟨k, n, c, A, hk, rfl, rfl, hn, hO, hbw⟩ := hrel
  by_cases hlt : k < 8
  · have hkl : k < t.length := by have := Ht.out; omega
    have hx := sess_at t Ht.out k hlt
    have hts := Lib.hid (show fl (t.take (k + 1)) = fl (t.take k) ++ [(t[k]'hkl).1, (t[k]'hkl).2] by unfold fl; rw [List.take_succ_eq_append_getElem hkl, List.flatMap_append]; rfl)
    obtain ⟨p, hp⟩ : ∃ p, p = t[k] := ⟨_, rfl⟩
    rw [← hp] at hts
    simp only [← hp] at hx
    clear hp
    obtain ⟨a, b⟩ := p
    simp only at hts hx
    have hk0 : (0 : Int) ≤ (k : Int) := by omega
    have hk8 : (k : Int) < 8 := by omega
    have hgw : g ≤ wr.heap.size := by have := hbw.out.size; have := Hg.out; omega
    have hxw := hx wr
    clear hx
    go_upto_region 5 with (fail)
    have hO2 := World.ownsRow.alloc hO.out (.cells #[.int .i64 a, .int .i64 b] 74)
    have hbw2 := hbw.out.alloc hgw (.cells #[.int .i64 a, .int .i64 b] 74)
    have kq := Blk.new wr 74 #[.int .i64 a, .int .i64 b]
    have hs1 : (wr.alloc (.cells #[.int .i64 a, .int .i64 b] 74)).heap.size = wr.heap.size + 1 := World.size_alloc _ _
    obtain ⟨U, hU⟩ : ∃ U, wr.alloc (.cells #[.int .i64 a, .int .i64 b] 74) = U := ⟨_, rfl⟩
    rw [hU] at hO2 hbw2 kq hs1 ⊢
    clear hU hxw
    obtain ⟨z, hz⟩ : ∃ z, wr.heap.size = z := ⟨_, rfl⟩
    rw [hz] at kq hs1 hgw ⊢
    have c0 := kq.cell 0
    have c1 := kq.cell 1
    have lq := kq.lt
    have hgU : g ≤ U.heap.size := by omega
    have hO3 : OwnI (U.alloc (.cells #[.int .i64 a, .int .i64 b] 3)) g (.slice A n c) (gn :: bs :: fl (t.take k)) := by
     have := World.ownsRow.alloc hO2 (.cells #[.int .i64 a, .int .i64 b] 3)
     exact this
    have hlen : (gn :: bs :: fl (t.take k)).length + 2 ≤ 4000000 := by
     simp only [List.length_cons, fl_len, List.length_take]; omega
    have hR := RdI.built U #[.int .i64 a, .int .i64 b] [a, b] 2 rfl rfl (by decide)
    have hgU2 : g ≤ (U.alloc (.cells #[.int .i64 a, .int .i64 b] 3)).heap.size := by rw [World.size_alloc]; omega
    have hbw3 := hbw2.alloc hgU (.cells #[.int .i64 a, .int .i64 b] 3)
    have HO3 := Lib.hid hO3
    have Hlen := Lib.hid hlen
    have HR := Lib.hid hR
    have Hbw3 := Lib.hid hbw3
    have HgU2 := Lib.hid hgU2
    clear hO2 hO3 hlen hR hbw2 hbw3 hgU2 hs1
    go_wp2_with (first | (at_builtin; refine wpList_app_intsG _ rfl (.tmp 17) (.tmp 22) rfl g (.slice A n c) _ rfl HO3.out _ 2 2 _ [a, b] rfl HR.out Hlen.out HgU2.out ?_; intro v1 w1 g1 g2 g3))
    go_roundw
    case rel =>
     obtain ⟨A1, c1, hv1, -⟩ := OwnI.rd g1
     have hl2 : ((gn :: bs :: fl (t.take k)) ++ [a, b]).length = 2 * (k + 1) + 2 := by
      simp only [List.length_append, List.length_cons, List.length_nil, fl_len, List.length_take]; have := Ht.out; omega
     rw [hl2] at hv1
     subst hv1
     refine ⟨k + 1, 2 * (k + 1) + 2, c1, A1, by omega, by go_num, rfl, rfl, Lib.hid ?_, Lib.hid (Hbw3.out.trans g2)⟩
     rw [hts.out]
     exact g1
    case measure => simp [intOf]; omega
  · obtain rfl : k = 8 := by omega
    subst hn
    go_wp2_with fail
    go_ret
    have h1 := hO.out
    rw [List.take_of_length_le (by have := Ht.out; omega)] at h1
    obtain ⟨A1, c1, hv1, hr⟩ := OwnI.rd h1
    have hl2 : (gn :: bs :: fl t).length = 18 := by simp only [List.length_cons, fl_len]; have := Ht.out; omega
    rw [hl2] at hv1 hr
    injection hv1 with e1 e2 e3
    subst e1; subst e3
    exact ⟨_, _, rfl, hr, Hg.out ▸ hbw.out⟩
def hdB (g b : Nat) (t : List (Nat × Nat)) (text : ByteArray) : ByteArray := ⟨(txF (1, ⟨(headB ((g, b) :: t) text).toArray⟩)).toArray⟩
def tbN (t : List (Nat × Nat)) : Tb := t.map fun p => ((p.1 : Int), (p.2 : Int))
def flN (t : List (Nat × Nat)) : List Nat := t.flatMap fun p => [p.1, p.2]
theorem flN_map (t : List (Nat × Nat)) : (flN t).map Int.ofNat = fl (tbN t) := by
 induction t with
 | nil => rfl
 | cons p t ih =>
   simp only [flN, fl, tbN, List.flatMap_cons, List.map_cons, List.map_append, List.map_nil, List.map_flatMap] at ih ⊢
   simp only [List.cons_append, List.nil_append]
   rw [ih]
   rfl
theorem flN_vi (t : List (Nat × Nat)) : viC (flN t) = tkB t := by
 induction t with
 | nil => rfl
 | cons p t ih =>
   simp only [viC, flN, tkB, List.flatMap_cons, List.flatMap_append, List.flatMap_nil, List.append_nil] at ih ⊢
   rw [ih]
theorem flN_len : ∀ t : List (Nat × Nat), (flN t).length = 2 * t.length
 | [] => rfl
 | p :: t => by have := flN_len t; simp only [flN, List.flatMap_cons, List.length_append, List.length_cons, List.length_nil] at this ⊢; omega
theorem flN_le (t : List (Nat × Nat)) (h : ∀ p ∈ t, p.1 ≤ 2147483647 ∧ p.2 ≤ 2147483647) : ∀ x ∈ flN t, x ≤ 2147483647 := by
 intro x hx
 unfold flN at hx
 obtain ⟨p, hp, hx⟩ := List.mem_flatMap.1 hx
 have := h p hp
 simp only [List.mem_cons, List.not_mem_nil, or_false] at hx
 rcases hx with rfl | rfl <;> omega
theorem hhead_large (g b : Nat) (t : List (Nat × Nat)) (text : ByteArray) (ht : t.length = 8) (hg : g ≤ 2147483647) (hb : b ≤ 2147483647) (hp : ∀ p ∈ t, p.1 ≤ 2147483647 ∧ p.2 ≤ 2147483647) (w : World) (hx : 500 < text.size) (hx2 : text.size ≤ 140737488351232) :
 Calls Try.prog 81 #[.int .i64 g, .int .i64 b, .string text, .agg (tc (tbN t)).toArray] w fun e w' => e = .returned (.tuple #[.string ⟨#[]⟩, .int .i64 2]) ∧ Below w.heap.size w w' := by
 have htb : (tbN t).length = 8 := by simp [tbN, ht]
 have hfl := fun w => hflat_any g b (tbN t) htb w
 have hmap : (g :: b :: flN t).map Int.ofNat = (g : Int) :: (b : Int) :: fl (tbN t) := by simp only [List.map_cons]; rw [flN_map]; rfl
 obtain ⟨S, hS⟩ : ∃ S : ByteArray, S.data.toList = viC (g :: b :: flN t) := ⟨⟨(viC (g :: b :: flN t)).toArray⟩, by simp⟩
 have hnum := fun A c w (h : RdI w w.heap.size A 18 c ((g : Int) :: (b : Int) :: fl (tbN t))) => nums_good (g :: b :: flN t) A 18 c w (by rw [hmap]; exact h) (by
  intro x hx
  rcases List.mem_cons.1 hx with rfl | hx
  · exact hg
  · rcases List.mem_cons.1 hx with rfl | hx
    · exact hb
    · exact flN_le t hp x hx) (by simp only [List.length_cons, flN_len]; omega) S hS
 have Hfl := Lib.hid hfl
 have Hnum := Lib.hid hnum
 have Htb := Lib.hid htb
 have hb0 := (Below.refl w.heap.size w).alloc (Nat.le_refl _) (.cells (tc (tbN t)).toArray 79)
 have kt := Blk.new w 79 (tc (tbN t)).toArray
 have hx3 : (500 : Int) < (text.size : Int) := by omega
 clear hfl hnum htb hmap hp hS
 go_enter Try.func81, Try.ntmps81
 go_upto_region 1 with (fail)
 obtain ⟨W, hW⟩ : ∃ W, w.alloc (.cells (tc (tbN t)).toArray 79) = W := ⟨_, rfl⟩
 rw [hW] at hb0 kt ⊢
 clear hW
 obtain ⟨z, hz⟩ : ∃ z, w.heap.size = z := ⟨_, rfl⟩
 rw [hz] at kt hb0 ⊢
 go_wp2_with (first | (refine wpList_load_blk rfl _ (.tmp 7) rfl z rfl _ (tab_row kt Htb.out) ?_))
 refine (Hfl.out W).mono ?_
 rintro e w1 ⟨A, c, rfl, hr, hb1⟩
 have HR := Lib.hid hr
 have hs1 : z ≤ W.heap.size := by have := hb0.size; omega
 replace hb0 := hb0.trans (hb1.mono hs1)
 have hs2 := hb1.size
 clear hr hb1
 go_wp2_with fail
 refine (Hnum.out A c w1 HR.out).mono ?_
 rintro e w2 ⟨rfl, hb2⟩
 go_wp2_with fail
 go_ret2
 exact ⟨rfl, hz ▸ hb0.trans (hb2.mono (by omega))⟩
theorem hhead_good (g b : Nat) (t : List (Nat × Nat)) (text : ByteArray) (ht : t.length = 8) (hg : g ≤ 2147483647) (hb : b ≤ 2147483647) (hp : ∀ p ∈ t, p.1 ≤ 2147483647 ∧ p.2 ≤ 2147483647) (w : World) (hx : text.size ≤ 500) :
 Calls Try.prog 81 #[.int .i64 g, .int .i64 b, .string text, .agg (tc (tbN t)).toArray] w fun e w' => e = .returned (.tuple #[.string (hdB g b t text), .int .i64 0]) ∧ Below w.heap.size w w' := by
 have htb : (tbN t).length = 8 := by simp [tbN, ht]
 have hfl := fun w => hflat_any g b (tbN t) htb w
 have hmap : (g :: b :: flN t).map Int.ofNat = (g : Int) :: (b : Int) :: fl (tbN t) := by simp only [List.map_cons]; rw [flN_map]; rfl
 obtain ⟨S, hS⟩ : ∃ S : ByteArray, S.data.toList = viC (g :: b :: flN t) := ⟨⟨(viC (g :: b :: flN t)).toArray⟩, by simp⟩
 have hpq : ∀ p ∈ (g, b) :: t, p.1 ≤ 2147483647 ∧ p.2 ≤ 2147483647 := by
  intro p hpp
  rcases List.mem_cons.1 hpp with rfl | hpp
  · exact ⟨hg, hb⟩
  · exact hp p hpp
 have hnum := fun A c w (h : RdI w w.heap.size A 18 c ((g : Int) :: (b : Int) :: fl (tbN t))) => nums_good (g :: b :: flN t) A 18 c w (by rw [hmap]; exact h) (fun x hx => flN_le ((g, b) :: t) hpq x hx) (by simp only [List.length_cons, flN_len]; omega) S hS
 have hSl : S.data.toList = tkB ((g, b) :: t) := by rw [hS]; exact flN_vi ((g, b) :: t)
 have hlen := tkB_len ((g, b) :: t) hpq
 rw [List.length_cons, ht] at hlen
 have hS90 : S.size ≤ 90 := by
  have h1 : S.data.toList.length = S.size := rfl
  rw [hSl] at h1
  omega
 have hcat : (⟨(headB ((g, b) :: t) text).toArray⟩ : ByteArray) = S ++ text := by
  apply ba_list
  rw [bs_append, hSl]
  simp [headB]
 have hput := fun w => put_okF (1, S ++ text) ⟨by show (1 : Int) ≤ 1; decide, by show (1 : Int) ≤ 255; decide, by show (S ++ text).size ≤ 4000; simp; omega⟩ w
 have hBB : (⟨(txF (1, S ++ text)).toArray⟩ : ByteArray) = hdB g b t text := by unfold hdB; rw [hcat]
 rw [hBB] at hput
 obtain ⟨HB, hHB⟩ : ∃ HB, hdB g b t text = HB := ⟨_, rfl⟩
 rw [hHB] at hput ⊢
 have Hput := Lib.hid hput
 have Hfl := Lib.hid hfl
 have Hnum := Lib.hid hnum
 have Htb := Lib.hid htb
 have hb0 := (Below.refl w.heap.size w).alloc (Nat.le_refl _) (.cells (tc (tbN t)).toArray 79)
 have kt := Blk.new w 79 (tc (tbN t)).toArray
 have hx3 : (text.size : Int) ≤ 500 := by omega
 have hsz : (9223372036854775807 < S.size + text.size) = False := by simp; omega
 clear hfl hnum htb hmap hp hS hpq hSl hlen hput hBB hHB hcat
 go_enter Try.func81, Try.ntmps81
 go_upto_region 1 with (fail)
 obtain ⟨W, hW⟩ : ∃ W, w.alloc (.cells (tc (tbN t)).toArray 79) = W := ⟨_, rfl⟩
 rw [hW] at hb0 kt ⊢
 clear hW
 obtain ⟨z, hz⟩ : ∃ z, w.heap.size = z := ⟨_, rfl⟩
 rw [hz] at kt hb0 ⊢
 go_wp2_with (first | (refine wpList_load_blk rfl _ (.tmp 7) rfl z rfl _ (tab_row kt Htb.out) ?_))
 refine (Hfl.out W).mono ?_
 rintro e w1 ⟨A, c, rfl, hr, hb1⟩
 have HR := Lib.hid hr
 have hs1 : z ≤ W.heap.size := by have := hb0.size; omega
 replace hb0 := hb0.trans (hb1.mono hs1)
 have hs2 := hb1.size
 clear hr hb1
 go_wp2_with fail
 refine (Hnum.out A c w1 HR.out).mono ?_
 rintro e w2 ⟨rfl, hb2⟩
 replace hb0 := hb0.trans (hb2.mono (by omega))
 have hs3 := hb2.size
 clear hb2
 go_wp2_with fail
 refine (Hput.out w2).mono ?_
 rintro e w3 ⟨rfl, hb3⟩
 go_wp2_with fail
 go_ret2
 exact ⟨rfl, hz ▸ hb0.trans (hb3.mono (by omega))⟩

end Go.Proofs.Ytokngfinnieccaa
