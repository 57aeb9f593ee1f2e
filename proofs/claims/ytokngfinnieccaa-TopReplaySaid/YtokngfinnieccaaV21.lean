/- Contract of shop.Disk. The archive without a move, as it grows (pure); the law's helper filled. Contract of the laws' helper filled. Contract of shop.Revs. The archive in memory, with the blocks that are its own; its methods in these words. Contract of shop.table. Contracts of shop.Step, case by case, and of shop.Sync, shop.Last, shop.Safe. Contract of shop.Step, as a whole move takes the log's place. The frames of a slot: a head, revisions, Done, revisions; what a cut leaves of them (pure). -/
import Derived.Test.YtokngfinnieccaaV19
import Derived.Test.YtokngfinnieccaaV20
namespace Go.Proofs.Ytokngfinnieccaa
open Go.ChangeShapes Go.WideShapes Go.RowKit
set_option linter.unusedVariables false
set_option linter.unusedSimpArgs false
set_option maxRecDepth 100000
set_option maxHeartbeats 4000000
theorem disk_info : (Try.prog.info? 70).map (·.size) = some 4 := by kernel_rfl
theorem disk_row {W : World} {g : Nat} {cs : Array Value} (h : Blk W g 70 cs) (hs : cs.size = 4) : (loadVar 70 ⟨g, 0, none⟩).run Try.prog W = .ok (.agg cs) W :=
 run_loadVar_row (P := Try.prog) W g 70 70 _ _ _ h Try.underlying70 rfl (by rw [hs]; exact disk_info)
theorem sdisk_any (q : Nat) (s : Sh) (sl : Sl) (mp : Option Addr) (w : World) (hk : Blk w q 134 (shc s sl mp)) :
 Calls Try.prog 48 #[.pointer (some ⟨q, 0, none⟩)] w fun e w' => e = .returned (dvl s.d0 s.d1) ∧ Below w.heap.size w w' := by
 have c0 := hk.cell 0
 have c1 := hk.cell 1
 have c2 := hk.cell 2
 have c3 := hk.cell 3
 rw [shc_0] at c0
 rw [shc_1] at c1
 rw [shc_2] at c2
 rw [shc_3] at c3
 have lq := hk.lt
 obtain ⟨x, hx⟩ : ∃ x, s.d0 = x := ⟨_, rfl⟩
 obtain ⟨y, hy⟩ : ∃ y, s.d1 = y := ⟨_, rfl⟩
 rw [hx] at c0 c1 ⊢
 rw [hy] at c2 c3 ⊢
 obtain ⟨x1, x2⟩ := x
 obtain ⟨y1, y2⟩ := y
 clear hx hy hk
 go_enter Try.func48, Try.ntmps48
 have kz := Blk.new w 70 #[.string ⟨#[]⟩, .int .i64 0, .string ⟨#[]⟩, .int .i64 0]
 have hb := (Below.refl w.heap.size w).alloc (Nat.le_refl _) (.cells #[.string ⟨#[]⟩, .int .i64 0, .string ⟨#[]⟩, .int .i64 0] 70)
 go_wp2_with (first | (refine wpList_store_blk rfl _ (.tmp 2) (.tmp 6) rfl w.heap.size #[.string x1, .int .i64 x2, .string y1, .int .i64 y2] rfl rfl _ _ kz disk_info rfl (by simp [Value.oneCell']) ?_))
 have k2 := kz.row #[.string x1, .int .i64 x2, .string y1, .int .i64 y2]
 have hb2 := below_setRow hb w.heap.size #[.string x1, .int .i64 x2, .string y1, .int .i64 y2] (Nat.le_refl _)
 refine row_end1 rfl rfl rfl (disk_row k2 rfl) ?_
 exact ⟨rfl, hb2⟩
theorem sbad_ok {x : Slt} (h1 : x.1.size ≤ 1048576) (h2 : 0 ≤ x.2) (h3 : x.2 ≤ (x.1.size : Int)) : sbad x = 0 := by
 unfold sbad
 rw [if_neg (by omega), if_neg (by omega)]
theorem frB_size {r : Rv} (h : oneE r = 0) : (frB r).size ≤ 4007 := by
 have h1 : (frB r).data.toList.length = (frB r).size := rfl
 rw [frB_tx, txF_len] at h1
 have := (frR_ok h).2.2
 omega

theorem wpList_app_revO {ops : Array Oper} {rest : List Oper} {o : Oper} {a : Act} {Q : Exit → Act → World → Prop} (w : World) (hgd : o.guard = none) (s x : Operand)
 (ho : o.op = .call { callee := .builtin .append, args := #[s, x], argTypes := #[24, 24] })
 (B : Nat) (v : Value) (ss : List Sl) (l : List Rv) (hs : a.eval s = v) (hown : OwnV w B v ss l)
 (r : Rv) (d : Sl) (hd : OwnP w B (.slice d.1 d.2.1 d.2.2) r.2.2) (ht : ∀ p ∈ r.2.2, p.2.2.size ≤ 140737488351232) (c : Nat) (hx : a.eval x = .slice (some ⟨w.heap.size, 0, none⟩) 1 c)
 (hn : l.length ≤ 100000000) (hB : B ≤ w.heap.size)
 (h : ∀ v' w', OwnV w' B v' (ss ++ [d]) (l ++ [r]) → Below B w w' → wpList Try.prog ops Q rest (a.put o.dst v') w') :
 wpList Try.prog ops Q (o :: rest) a (w.alloc (.cells #[.int .i64 r.1, .int .i64 r.2.1, .slice d.1 d.2.1 d.2.2] 30)) :=
 wpList_step fun K hK => step_app_rev w hgd s x ho B v ss l hs hown r d hd ht c hx hn hB fun v' w' h1 h2 _ _ => hK _ _ (h v' w' h1 h2)
theorem RdR.from {w : World} {B n c : Nat} {A : Option Addr} {l : List Rv} (h : RdR w B A n c l) (k : Nat) (hk : k ≤ n) : RdR w B (if c = k then A else Option.map (fun x : Addr => x.add (k * 3)) A) (n - k) (c - k) (l.drop k) := by
 refine h.drop k hk _ fun hlt b o e => ?_
 have := h.caps
 rw [if_neg (by omega), e]
 simp only [Option.map_some, Addr.add]
 by_cases h0 : k * 3 = 0
 · simp [h0]
 · simp [h0]
theorem srevs_good (q : Nat) (s : Sh) (sl : Sl) (mp : Option Addr) (r : Int) (k : Nat) (w : World) (hk : Blk w q 134 (shc s sl mp)) (h8 : Lg8 s.log) (hsl : sl.2.1 = s.log.revs.length) (hb0 : 0 ≤ s.log.base) (hb1 : s.log.base ≤ 2147483647) (hr : s.log.revs.length ≤ 1000) (hrk : r = s.log.base + k) (hkl : k ≤ s.log.revs.length)
 (hv : RdR w w.heap.size sl.1 sl.2.1 sl.2.2 s.log.revs) (hsm : ∀ r ∈ s.log.revs, r.2.2.length ≤ 1600) :
 Calls Try.prog 50 #[.pointer (some ⟨q, 0, none⟩), .int .i64 r] w fun e w' => ∃ (sl' : Sl) (ss : List Sl), e = .returned (.tuple #[.slice sl'.1 sl'.2.1 sl'.2.2, .int .i64 0]) ∧ OwnV w' w.heap.size (.slice sl'.1 sl'.2.1 sl'.2.2) ss (s.log.revs.drop k) ∧ Below w.heap.size w w' := by
 have hc := there_any q s sl mp r w hk h8 hsl hb0 hb1 hr
 rw [if_neg (by omega), if_neg (by omega)] at hc
 obtain ⟨A, n, c⟩ := sl
 simp only at hsl hv
 obtain ⟨Ba, hBa⟩ : ∃ Ba, s.log.base = Ba := ⟨_, rfl⟩
 have c6 : (shc s (A, n, c) mp)[6]? = some (.int .i64 Ba) := by rw [← hBa]; exact shc_base h8
 rw [hBa] at hrk hb0 hb1
 have c40 : (shc s (A, n, c) mp)[40]? = some (.slice A n c) := shc_revs h8
 have hw : IntKind.i64.wrap (r - Ba) = (k : Int) := by rw [hrk, show Ba + (k : Int) - Ba = k by omega]; exact IntWalk.i64_in _ (by omega)
 have hcap := hv.caps
 have hvk := hv.from k (by omega)
 obtain ⟨L, hL⟩ : ∃ L, s.log.revs.drop k = L := ⟨_, rfl⟩
 have hsL : ∀ r ∈ L, r.2.2.length ≤ 1600 := by rw [← hL]; exact fun r hr => hsm r (List.mem_of_mem_drop hr)
 have hLl : L.length = n - k := by rw [← hL, List.length_drop, hsl]
 rw [hL] at hvk ⊢
 have hkn : k ≤ n := by omega
 have hn1 : n ≤ 1000 := by omega
 have Hc := Lib.hid hc
 have HsL := Lib.hid hsL
 have HLl := Lib.hid hLl
 have lq := hk.lt
 have hk0 : (0 : Int) ≤ (k : Int) := by omega
 have hkI : (k : Int) ≤ (n : Int) := by omega
 have hkc : (k : Int) ≤ (c : Int) := by omega
 clear hc hsL hLl hv hL hBa hrk hr hb0 hb1 hsl h8 hsm hkl
 go_enter Try.func50, Try.ntmps50
 go_wp2_with fail
 refine Hc.out.mono ?_
 rintro e w1 ⟨rfl, hb⟩
 have k1 := hk.below hb lq
 have d6 := k1.cell 6
 have d40 := k1.cell 40
 rw [c6] at d6
 rw [c40] at d40
 have l1 := k1.lt
 have Hv1 := Lib.hid hvk
 have Hb := Lib.hid hb
 clear hvk hb c6 c40 hk lq Hc k1
 go_upto_region 5 with (fail)
 by_cases hck : c = k
 · skip
   go_quiet (fail)
   have Hb2 := Lib.hid (below_drewN_ Hb.out nq)
   have hr2 := Hv1.out
   obtain ⟨wn, hU_⟩ : ∃ U_, w1.drewN nq = U_ := ⟨_, rfl⟩
   rw [hU_] at Hb2 ⊢
   clear hU_ d6 d40 l1 Hv1 Hb
   rw [if_pos hck] at hr2
   obtain ⟨m, hm⟩ : ∃ m, n - k = m := ⟨_, rfl⟩
   have hmI : (n : Int) - (k : Int) = (m : Int) := by omega
   obtain ⟨A', hA'⟩ : ∃ A', A = A' := ⟨_, rfl⟩
   obtain ⟨c', hc'⟩ : ∃ c', c - k = c' := ⟨_, rfl⟩
   rw [hm, hc'] at hr2
   subst hA'
   have HR := Lib.hid hr2
   have hml : m = L.length := by rw [HLl.out, hm]
   have Hml := Lib.hid hml
   have hm9 : m ≤ 1000 := by omega
   clear hr2 hml
   try rw [hm, hc']
   go_wp2_with fail
   go_loopw [7, 9, 30] (fun vv z iv wr => ∃ (j nv cv : Nat) (Av : Option Addr) (ss : List Sl), j ≤ m ∧ iv = .int .i64 j ∧ vv = .slice Av nv cv ∧ Hid (OwnV wr w.heap.size (.slice Av nv cv) ss (L.take j)) ∧ Hid (Below w.heap.size w wr)) (fun _ _ iv _ => m - (intOf iv).toNat)
   case atStart => exact ⟨0, 0, 0, none, [], by omega, rfl, rfl, Lib.hid (OwnV.nil _ _), Hb2⟩
   case round =>
    obtain ⟨j, nv, cv, Av, ss, hj, rfl, rfl, hO, hbw⟩ := hrel
    by_cases hlt : j < m
    · exact absurd hlt (by omega)
    · obtain rfl : j = m := by omega
      have hO := hO.out
      rw [List.take_of_length_le (by have := Hml.out; omega)] at hO
      go_wp2_with fail
      go_ret2
      exact ⟨(Av, nv, cv), ss, rfl, hO, hbw.out⟩
 · skip
   go_quiet (fail)
   have Hb2 := Lib.hid (below_drewN_ Hb.out nq)
   have hr2 := Hv1.out
   obtain ⟨wn, hU_⟩ : ∃ U_, w1.drewN nq = U_ := ⟨_, rfl⟩
   rw [hU_] at Hb2 ⊢
   clear hU_ d6 d40 l1 Hv1 Hb
   rw [if_neg hck] at hr2
   obtain ⟨m, hm⟩ : ∃ m, n - k = m := ⟨_, rfl⟩
   have hmI : (n : Int) - (k : Int) = (m : Int) := by omega
   obtain ⟨A', hA'⟩ : ∃ A', Option.map (fun x : Addr => x.add (k * 3)) A = A' := ⟨_, rfl⟩
   obtain ⟨c', hc'⟩ : ∃ c', c - k = c' := ⟨_, rfl⟩
   rw [hm, hA', hc'] at hr2
   have HR := Lib.hid hr2
   have hml : m = L.length := by rw [HLl.out, hm]
   have Hml := Lib.hid hml
   have hm9 : m ≤ 1000 := by omega
   clear hr2 hml
   try rw [hm, hA', hc']
   go_wp2_with fail
   go_loopw [7, 9, 30] (fun vv z iv wr => ∃ (j nv cv : Nat) (Av : Option Addr) (ss : List Sl), j ≤ m ∧ iv = .int .i64 j ∧ vv = .slice Av nv cv ∧ Hid (OwnV wr w.heap.size (.slice Av nv cv) ss (L.take j)) ∧ Hid (Below w.heap.size w wr)) (fun _ _ iv _ => m - (intOf iv).toNat)
   case atStart => exact ⟨0, 0, 0, none, [], by omega, rfl, rfl, Lib.hid (OwnV.nil _ _), Hb2⟩
   case round =>
    obtain ⟨j, nv, cv, Av, ss, hj, rfl, rfl, hO, hbw⟩ := hrel
    by_cases hlt : j < m
    · have hjl : j < L.length := by have := Hml.out; omega
      obtain ⟨g, o, A1, n1, c1, rfl, hg, d0, d1, d2, hrd⟩ := (HR.out.below hbw.out).at_ j hlt
      have htk := Lib.hid (show L.take (j + 1) = L.take j ++ [L[j]] from List.take_succ_eq_append_getElem hjl)
      have hsm1 := HsL.out L[j] (List.getElem_mem hjl)
      obtain ⟨pp, hp⟩ : ∃ pp, L[j] = pp := ⟨_, rfl⟩
      rw [hp] at d0 d1 hrd htk hsm1
      obtain ⟨ra, rb, d⟩ := pp
      simp only at d0 d1 d2 hrd hsm1
      have hj0 : (0 : Int) ≤ (j : Int) := by omega
      have hjm : (j : Int) < (m : Int) := by omega
      have hws := hbw.out.size
      have hgw : g < wr.heap.size := by omega
      have Hnd := Lib.hid hrd.1.symm
      have hn16 : n1 ≤ 1600 := by rw [hrd.1]; exact hsm1
      clear hsm1
      have Hdt := Lib.hid hrd.2.2
      go_upto_region 8 with (fail)
      have hal := (Below.refl wr.heap.size wr).alloc (Nat.le_refl _) (.cells #[.int .i64 ra, .int .i64 rb, .slice A1 n1 c1] 30)
      have hzr0 := own_lt hO.out.row
      have kz := Blk.new wr 30 #[.int .i64 ra, .int .i64 rb, .slice A1 n1 c1]
      have Hrd := Lib.hid ((hrd.more hws).stepA (.cells #[.int .i64 ra, .int .i64 rb, .slice A1 n1 c1] 30))
      have HO := Lib.hid (hO.out.below hal)
      have Hbw := Lib.hid (hbw.out.trans (hal.mono hws))
      have hs1 : (wr.alloc (.cells #[.int .i64 ra, .int .i64 rb, .slice A1 n1 c1] 30)).heap.size = wr.heap.size + 1 := World.size_alloc _ _
      obtain ⟨U, hU⟩ : ∃ U, wr.alloc (.cells #[.int .i64 ra, .int .i64 rb, .slice A1 n1 c1] 30) = U := ⟨_, rfl⟩
      rw [hU] at kz Hrd HO Hbw hs1 ⊢
      obtain ⟨z, hz⟩ : ∃ z, wr.heap.size = z := ⟨_, rfl⟩
      rw [hz] at kz hs1 hws hzr0 ⊢
      have hzr := Lib.hid hzr0
      clear hzr0
      clear hU hal hrd d0 d1 d2 hgw hO hbw hz hp
      have a2 := kz.cell 2
      have f2 := kz.frozen 2
      have lz := kz.lt
      have Kz := Lib.hid kz
      have Hn := Lib.hid (show ([] : List Pt).length + n1 ≤ 4000000 by simp; omega)
      clear kz
      go_upto_region 9 with (first | (refine wpList_app_partsC _ rfl (.const (.slice none 0 0)) (.tmp 35) rfl U.heap.size _ [] rfl (OwnP.nil _ _) A1 n1 c1 _ d rfl Hrd.out Hn.out (Nat.le_refl _) ?_; intro vd wd qd hvd; rw [List.nil_append] at qd; obtain ⟨A5, c5, rfl⟩ := qd.form_ (n := n1) Hnd.out; have kr_ := Kz.out.below hvd lz; have s2 := kr_.cell 2; have t2 := kr_.frozen 2; have lr_ := kr_.lt))
      have kr5 : Blk (wd.setCell ⟨z, 2, none⟩ (.slice A5 n1 c5)) z 30 #[.int .i64 ra, .int .i64 rb, .slice A5 n1 c5] := kr_.set_ 2 (.slice A5 n1 c5)
      have oD := own_only qd (Only.setSelf wd z 2 (.slice A5 n1 c5)) (fun k hk e => by have e : k = z := e; rw [e] at hk; exact own_blk_ne qd kr_ (by decide) hk)
      have hOd := HO.out.below hvd
      have hrz : ∀ k, (Value.slice Av nv cv).ownBlock = some k → ¬ k = z := fun k hk e => by have := hzr.out k hk; omega
      have hO5 := hOd.only (Only.setSelf wd z 2 (.slice A5 n1 c5)) hrz (fun j hj k hk e => by have e : k = z := e; rw [e] at hk; exact own_blk_ne (hOd.ds j hj).1 kr_ (by decide) hk)
      have hb5 := (Hbw.out.trans (hvd.mono (by omega))).setCell (p := ⟨z, 2, none⟩) (by simp only; omega) (.slice A5 n1 c5)
      have hs5 : (wd.setCell ⟨z, 2, none⟩ (.slice A5 n1 c5)).heap.size = wd.heap.size := by simp
      have hsd := hvd.size
      obtain ⟨V5, hV5⟩ : ∃ V5, wd.setCell ⟨z, 2, none⟩ (.slice A5 n1 c5) = V5 := ⟨_, rfl⟩
      rw [hV5] at kr5 oD hO5 hb5 hs5 ⊢
      clear hV5 hvd qd kr_ s2 t2 lr_ a2 f2 lz Kz Hrd HO hOd
      have HO5 := Lib.hid hO5
      have HD := Lib.hid (own_base oD (show w.heap.size ≤ U.heap.size by omega))
      have Hlen : Hid ((L.take j).length ≤ 100000000) := Lib.hid (by rw [List.length_take]; omega)
      have HB5 : Hid (w.heap.size ≤ V5.heap.size) := Lib.hid (by omega)
      have Hb5 := Lib.hid hb5
      have a0 := kr5.cell 0
      have a1 := kr5.cell 1
      have a2 := kr5.cell 2
      have lz := kr5.lt
      clear oD hO5 hb5 kr5 hs5
      go_wp2_with (first | (at_builtin; refine wpList_app_revO V5 rfl (.tmp 38) (.tmp 40) rfl w.heap.size (.slice Av nv cv) ss (L.take j) rfl HO5.out (ra, rb, d) (A5, n1, c5) HD.out Hdt.out 1 rfl Hlen.out HB5.out ?_; intro v9 w9 g1 g2))
      obtain ⟨A9, c9, e9⟩ := g1.form
      subst e9
      go_roundw
      case rel => exact ⟨j + 1, _, c9, A9, ss ++ [(A5, n1, c5)], by omega, by go_num, rfl, Lib.hid (by rw [htk.out]; exact g1), Lib.hid (Hb5.out.trans g2)⟩
      case measure => simp [intOf]; omega
    · obtain rfl : j = m := by omega
      have hO := hO.out
      rw [List.take_of_length_le (by have := Hml.out; omega)] at hO
      go_wp2_with fail
      go_ret2
      exact ⟨(Av, nv, cv), ss, rfl, hO, hbw.out⟩
abbrev Mv := Int × Int × Bool
def whM : Option Mv → Bool
 | none => false
 | some v => v.2.2
def MvM (w : World) (F : Nat → Prop) (m : Option Mv) (mp : Option Addr) : Prop :=
 match m with
 | none => mp = none
 | some v => ∃ g, mp = some ⟨g, 0, none⟩ ∧ F g ∧ Blk w g 141 #[.int .i64 v.1, .int .i64 v.2.1, .bool v.2.2]
def grow (F : Nat → Prop) (w w' : World) (k : Nat) : Prop := F k ∨ (w.heap.size ≤ k ∧ k < w'.heap.size)
structure ShM (w : World) (F : Nat → Prop) (q : Nat) (s : Sh) (m : Option Mv) : Prop where
 fq : F q
 lt : ∀ k, F k → k < w.heap.size
 ex : ∃ (sl : Sl) (ss : List Sl) (mp : Option Addr), Blk w q 134 (shc s sl mp) ∧ OwnV w 0 (.slice sl.1 sl.2.1 sl.2.2) ss s.log.revs ∧ (∀ k, (Value.slice sl.1 sl.2.1 sl.2.2).ownBlock = some k → F k) ∧ (∀ d ∈ ss, ∀ k, (Value.slice d.1 d.2.1 d.2.2).ownBlock = some k → F k) ∧ MvM w F m mp
theorem MvM.only {w w' : World} {F S : Nat → Prop} {m : Option Mv} {mp : Option Addr} (h : MvM w F m mp) (ho : Only w w' S) (hd : ∀ k, F k → ¬ S k) : MvM w' F m mp := by
 cases m with
 | none => exact h
 | some v =>
   obtain ⟨g, e, hg, hk⟩ := h
   exact ⟨g, e, hg, hk.only ho (hd g hg)⟩
theorem MvM.mono {w : World} {F G : Nat → Prop} {m : Option Mv} {mp : Option Addr} (h : MvM w F m mp) (hF : ∀ k, F k → G k) : MvM w G m mp := by
 cases m with
 | none => exact h
 | some v =>
   obtain ⟨g, e, hg, hk⟩ := h
   exact ⟨g, e, hF g hg, hk⟩
theorem ShM.only {w w' : World} {F S : Nat → Prop} {q : Nat} {s : Sh} {m : Option Mv} (h : ShM w F q s m) (ho : Only w w' S) (hd : ∀ k, F k → ¬ S k) : ShM w' F q s m := by
 obtain ⟨sl, ss, mp, hk, hv, hr, hs, hm⟩ := h.ex
 refine ⟨h.fq, fun k hk => Nat.lt_of_lt_of_le (h.lt k hk) ho.2.2.2.1, sl, ss, mp, hk.only ho (hd q h.fq), hv.only ho (fun k hk => hd k (hr k hk)) (fun j hj k hk => hd k (hs _ (List.getElem_mem _) k hk)), hr, hs, hm.only ho hd⟩
theorem ShM.below {w w' : World} {F : Nat → Prop} {q : Nat} {s : Sh} {m : Option Mv} (h : ShM w F q s m) (hb : Below w.heap.size w w') : ShM w' F q s m :=
 h.only (S := fun _ => False) (Only.of_below hb) (fun _ _ h => h)
theorem ShM.mono {w : World} {F G : Nat → Prop} {q : Nat} {s : Sh} {m : Option Mv} (h : ShM w F q s m) (hF : ∀ k, F k → G k) (hG : ∀ k, G k → k < w.heap.size) : ShM w G q s m := by
 obtain ⟨sl, ss, mp, hk, hv, hr, hs, hm⟩ := h.ex
 exact ⟨hF q h.fq, hG, sl, ss, mp, hk, hv, fun k hk => hF k (hr k hk), fun d hd k hk => hF k (hs d hd k hk), hm.mono hF⟩
theorem ShM.grow {w w' : World} {F : Nat → Prop} {q : Nat} {s : Sh} {m : Option Mv} (h : ShM w' F q s m) : ShM w' (grow F w w') q s m :=
 h.mono (fun k hk => .inl hk) (fun k hk => hk.elim (h.lt k) (·.2))
def addG (s : Sh) (m : Option Mv) (r : Rv) : Sh := if nextE s.log s.text.size r = 0 then (if whM m = true then addW s r else addS s r) else s
theorem sadd_M (q : Nat) (s : Sh) (m : Option Mv) (F : Nat → Prop) (a b : Int) (d : List Pt) (A : Option Addr) (n c : Nat) (w : World) (h : ShM w F q s m) (hg : Hg s.log s.text) (hat : s.at_ ≤ 1) (hl : dlook s.d0 s.d1 s.at_ = 0)
 (hl2 : whM m = true → nextE s.log s.text.size (a, b, d) = 0 → dlook (putS s s.at_ (frB (a, b, d))).d0 (putS s s.at_ (frB (a, b, d))).d1 ((1 - s.at_ : Nat) : Int) = 0) (hd : RdP w w.heap.size A n c d) :
 Calls Try.prog 42 #[.pointer (some ⟨q, 0, none⟩), .agg #[.int .i64 a, .int .i64 b, .slice A n c]] w fun e w' =>
  e = .returned (.tuple #[.int .i64 (if nextE s.log s.text.size (a, b, d) = 0 then s.log.base + (s.log.revs.length + 1 : Nat) else 0), .int .i64 (nextE s.log s.text.size (a, b, d))]) ∧ ShM w' (grow F w w') q (addG s m (a, b, d)) m ∧ Only w w' F := by
 obtain ⟨sl, ss, mp, hk, hv, hr, hs, hm⟩ := h.ex
 have hsl : sl.2.1 = s.log.revs.length := by obtain ⟨A9, c9, e9⟩ := hv.form; injection e9
 have hlen := hg.len
 by_cases he : nextE s.log s.text.size (a, b, d) = 0
 · rw [if_pos he, he]
   obtain ⟨p1, p2, -⟩ := one_parts (next_len he).1
   simp only at p1 p2
   obtain ⟨x, rfl⟩ := Int.eq_ofNat_of_zero_le p1
   have key : ∀ (s' : Sh) (mp' : Option Addr) (w' : World) (sl' d' : Sl), s'.log.revs = s.log.revs ++ [((x : Int), b, d)] → Blk w' q 134 (shc s' sl' mp) → OwnV w' 0 (.slice sl'.1 sl'.2.1 sl'.2.2) (ss ++ [d']) (s.log.revs ++ [((x : Int), b, d)]) → (∀ k, (Value.slice d'.1 d'.2.1 d'.2.2).ownBlock = some k → w.heap.size ≤ k) →
    Only w w' (fun k => k = q ∨ (Value.slice sl.1 sl.2.1 sl.2.2).ownBlock = some k) → ((Value.slice sl'.1 sl'.2.1 sl'.2.2).ownBlock = (Value.slice sl.1 sl.2.1 sl.2.2).ownBlock ∨ ∀ k, (Value.slice sl'.1 sl'.2.1 sl'.2.2).ownBlock = some k → w.heap.size ≤ k) →
    ShM w' (Go.Proofs.Ytokngfinnieccaa.grow F w w') q s' m ∧ Only w w' F := by
    intro s' mp' w' sl' d' er hk' hv' hd' ho hn
    have hof : Only w w' F := ho.mono fun k _ hk => by
     rcases hk with rfl | hk
     · exact h.fq
     · exact hr k hk
    refine ⟨⟨.inl h.fq, fun k hk => hk.elim (fun hk => Nat.lt_of_lt_of_le (h.lt k hk) ho.2.2.2.1) (·.2), sl', ss ++ [d'], mp, hk', by rw [er]; exact hv', fun k hk => ?_, fun e he k hk => ?_, ?_⟩, hof⟩
    · rcases hn with hn | hn
      · exact .inl (hr k (hn ▸ hk))
      · exact .inr ⟨hn k hk, own_lt hv'.row k hk⟩
    · rcases List.mem_append.1 he with he | he
      · exact .inl (hs e he k hk)
      · rw [List.mem_singleton] at he
        subst he
        have hl9 := hv'.len
        have := (hv'.ds s.log.revs.length (by simp)).1
        have e5 : (ss ++ [e])[s.log.revs.length]'(by rw [hl9]; simp) = e := by
         have : s.log.revs.length = ss.length := by simp at hl9; omega
         simp [this]
        rw [e5] at this
        exact .inr ⟨hd' k hk, World.ownsRow.lt this k hk |>.2⟩
    · cases m with
      | none => exact hm
      | some v =>
        obtain ⟨g, eg, hfg, hkg⟩ := hm
        refine ⟨g, eg, .inl hfg, hkg.only ho ?_⟩
        rintro (e | e)
        · exact Blk.ne_ hkg hk (by decide) e
        · exact own_blk_ne hv.row hkg (by decide) e
   cases m with
   | none =>
     obtain rfl : mp = none := hm
     refine (sadd_g0 q s sl ss 0 x b d A n c w hk hg.l8 hsl hg.base0 hg.base1 (by omega) hd hv (Nat.zero_le _) (by omega) hg.txt he hl).mono ?_
     rintro e w' ⟨rfl, sl', d', hk', hv', hd', ho, hn⟩
     have e1 : addG s none ((x : Int), b, d) = addS s ((x : Int), b, d) := by unfold addG; rw [if_pos he]; rfl
     rw [e1]
     exact ⟨rfl, key _ none w' sl' d' rfl hk' hv' hd' ho hn⟩
   | some v =>
     obtain ⟨g, eg, hfg, hkg⟩ := hm
     subst eg
     obtain ⟨fl, cp, wh⟩ := v
     cases wh with
     | false =>
       refine (sadd_gn q s sl ss 0 x b d A n c w g fl cp hkg hk hg.l8 hsl hg.base0 hg.base1 (by omega) hd hv (Nat.zero_le _) (by omega) hg.txt he hl).mono ?_
       rintro e w' ⟨rfl, sl', d', hk', hv', hd', ho, hn⟩
       have e1 : addG s (some (fl, cp, false)) ((x : Int), b, d) = addS s ((x : Int), b, d) := by unfold addG; rw [if_pos he]; rfl
       rw [e1]
       exact ⟨rfl, key _ none w' sl' d' rfl hk' hv' hd' ho hn⟩
     | true =>
       refine (sadd_gy q s sl ss 0 x b d A n c w g fl cp hkg hk hg.l8 hsl hg.base0 hg.base1 (by omega) hd hv (Nat.zero_le _) (by omega) hg.txt he hl hat (hl2 rfl he)).mono ?_
       rintro e w' ⟨rfl, sl', d', hk', hv', hd', ho, hn⟩
       have e1 : addG s (some (fl, cp, true)) ((x : Int), b, d) = addW s ((x : Int), b, d) := by unfold addG; rw [if_pos he]; rfl
       rw [e1]
       exact ⟨rfl, key _ none w' sl' d' rfl hk' hv' hd' ho hn⟩
 · rw [if_neg he]
   refine (sadd_no q s sl mp a b d A n c w hk hg.l8 hsl hg.base0 hg.base1 (by omega) hd _ rfl he).mono ?_
   rintro e w' ⟨rfl, hb⟩
   have e1 : addG s m (a, b, d) = s := by unfold addG; rw [if_neg he]
   rw [e1]
   exact ⟨rfl, (h.below hb).grow, Only.of_below hb⟩
theorem stext_M (q : Nat) (s : Sh) (m : Option Mv) (F : Nat → Prop) (r : Int) (k : Nat) (w : World) (h : ShM w F q s m) (hg : Hg s.log s.text) (hrk : r = s.log.base + k) (hkl : k ≤ s.log.revs.length) :
 Calls Try.prog 47 #[.pointer (some ⟨q, 0, none⟩), .int .i64 r] w fun e w' => e = .returned (.tuple #[.string (txt s.log.text s.log.revs k), .int .i64 0]) ∧ Below w.heap.size w w' := by
 obtain ⟨sl, ss, mp, hk, hv, hr, hs, hm⟩ := h.ex
 have hsl : sl.2.1 = s.log.revs.length := by obtain ⟨A9, c9, e9⟩ := hv.form; injection e9
 exact stext_good q s sl mp r k w hk hg.l8 hsl hg.base0 hg.base1 (by have := hg.len; omega) hrk hkl hv.rd hg.tx
theorem stextno_M (q : Nat) (s : Sh) (m : Option Mv) (F : Nat → Prop) (r : Int) (w : World) (h : ShM w F q s m) (hg : Hg s.log s.text) (he : thE s.log r ≠ 0) :
 Calls Try.prog 47 #[.pointer (some ⟨q, 0, none⟩), .int .i64 r] w fun e w' => e = .returned (.tuple #[.string ⟨#[]⟩, .int .i64 (thE s.log r)]) ∧ Below w.heap.size w w' := by
 obtain ⟨sl, ss, mp, hk, hv, hr, hs, hm⟩ := h.ex
 have hsl : sl.2.1 = s.log.revs.length := by obtain ⟨A9, c9, e9⟩ := hv.form; injection e9
 exact stext_none q s sl mp r w hk hg.l8 hsl hg.base0 hg.base1 (by have := hg.len; omega) he
theorem shead_M (q : Nat) (s : Sh) (m : Option Mv) (F : Nat → Prop) (w : World) (h : ShM w F q s m) (hg : Hg s.log s.text) :
 Calls Try.prog 40 #[.pointer (some ⟨q, 0, none⟩)] w fun e w' => e = .returned (.int .i64 (s.log.base + s.log.revs.length)) ∧ Below w.heap.size w w' := by
 obtain ⟨sl, ss, mp, hk, hv, hr, hs, hm⟩ := h.ex
 have hsl : sl.2.1 = s.log.revs.length := by obtain ⟨A9, c9, e9⟩ := hv.form; injection e9
 exact shead_any q s sl mp w hk hg.l8 hsl hg.base0 hg.base1 (by have := hg.len; omega)
theorem txr_parts : ∀ (l : List Rv) (t : ByteArray), txr t l = 0 → ∀ r ∈ l, oneE r = 0
 | [], t, h, r, hr => by simp at hr
 | q :: l, t, h, r, hr => by
   simp only [txr] at h
   split at h
   · omega
   · split at h
     · omega
     · rename_i h1 h2
       rcases List.mem_cons.1 hr with rfl | hr
       · omega
       · exact txr_parts l _ h r hr
theorem Hg.ones {l : Lg} {t : ByteArray} (h : Hg l t) : ∀ r ∈ l.revs, oneE r = 0 := txr_parts _ _ (txE_parts h.tx).2.2
theorem Hg.small {l : Lg} {t : ByteArray} (h : Hg l t) : ∀ r ∈ l.revs, r.2.2.length ≤ 1600 := fun r hr => ((good_iff r.2.2).1 (one_good (h.ones r hr))).1
theorem srevs_M (q : Nat) (s : Sh) (m : Option Mv) (F : Nat → Prop) (r : Int) (k : Nat) (w : World) (h : ShM w F q s m) (hg : Hg s.log s.text) (hrk : r = s.log.base + k) (hkl : k ≤ s.log.revs.length) :
 Calls Try.prog 50 #[.pointer (some ⟨q, 0, none⟩), .int .i64 r] w fun e w' => ∃ (sl' : Sl) (ss : List Sl), e = .returned (.tuple #[.slice sl'.1 sl'.2.1 sl'.2.2, .int .i64 0]) ∧ OwnV w' w.heap.size (.slice sl'.1 sl'.2.1 sl'.2.2) ss (s.log.revs.drop k) ∧ Below w.heap.size w w' := by
 obtain ⟨sl, ss, mp, hk, hv, hr, hs, hm⟩ := h.ex
 have hsl : sl.2.1 = s.log.revs.length := by obtain ⟨A9, c9, e9⟩ := hv.form; injection e9
 exact srevs_good q s sl mp r k w hk hg.l8 hsl hg.base0 hg.base1 (by have := hg.len; omega) hrk hkl hv.rd hg.small
theorem sdisk_M (q : Nat) (s : Sh) (m : Option Mv) (F : Nat → Prop) (w : World) (h : ShM w F q s m) :
 Calls Try.prog 48 #[.pointer (some ⟨q, 0, none⟩)] w fun e w' => e = .returned (dvl s.d0 s.d1) ∧ Below w.heap.size w w' := by
 obtain ⟨sl, ss, mp, hk, hv, hr, hs, hm⟩ := h.ex
 exact sdisk_any q s sl mp w hk
theorem ShM.new {w w' : World} {q : Nat} (hq : w.heap.size ≤ q) (hk : Blk w' q 134 (shc shN (none, 0, 0) none)) : ShM w' (fun k => w.heap.size ≤ k ∧ k < w'.heap.size) q shN none :=
 ⟨⟨hq, hk.lt⟩, fun k h => h.2, (none, 0, 0), [], none, hk, OwnV.nil _ _, fun k hk => by simp [Value.ownBlock] at hk, fun d hd => by simp at hd, rfl⟩
def tblF : Int → Tb → List Rv → Tb
 | _, t, [] => t
 | n, t, r :: l => tblF (n + 1) (t.set r.1.toNat (r.2.1, n + 1)) l
theorem tblF_snoc : ∀ (l : List Rv) (n : Int) (t : Tb) (r : Rv), tblF n t (l ++ [r]) = (tblF n t l).set r.1.toNat (r.2.1, n + (l.length : Int) + 1)
 | [], n, t, r => by simp [tblF]
 | q :: l, n, t, r => by
   rw [List.cons_append, tblF, tblF_snoc l, List.length_cons]
   simp only [tblF]
   congr 2
   omega
theorem tblF_len : ∀ (l : List Rv) (n : Int) (t : Tb), (tblF n t l).length = t.length
 | [], n, t => rfl
 | r :: l, n, t => by rw [tblF, tblF_len l, List.length_set]
structure ShR (w : World) (q : Nat) (s : Sh) (sl : Sl) (ss : List Sl) (mp : Option Addr) : Prop where
 k : Blk w q 134 (shc s sl mp)
 v : OwnV w 0 (.slice sl.1 sl.2.1 sl.2.2) ss s.log.revs
theorem ShR.below {w w' : World} {q : Nat} {s : Sh} {sl : Sl} {ss : List Sl} {mp : Option Addr} (h : ShR w q s sl ss mp) (hb : Below w.heap.size w w') : ShR w' q s sl ss mp := ⟨h.k.below hb h.k.lt, h.v.below hb⟩
theorem ShR.box {w w' : World} {q : Nat} {s s' : Sh} {sl : Sl} {ss : List Sl} {mp mp' : Option Addr} (h : ShR w q s sl ss mp) (ho : Only w w' (fun k => k = q)) (hk : Blk w' q 134 (shc s' sl mp')) (e : s'.log.revs = s.log.revs) : ShR w' q s' sl ss mp' :=
 ⟨hk, by rw [e]; exact h.v.box h.k (by decide) (by decide) ho⟩
theorem ShR.len {w : World} {q : Nat} {s : Sh} {sl : Sl} {ss : List Sl} {mp : Option Addr} (h : ShR w q s sl ss mp) : sl.2.1 = s.log.revs.length := by obtain ⟨A9, c9, e9⟩ := h.v.form; injection e9
def trimSh (s : Sh) (i n : Int) : Sh := { s with d0 := (dtrm s.d0 s.d1 i n).1, d1 := (dtrm s.d0 s.d1 i n).2 }
def syncSh (s : Sh) (i : Int) : Sh := { s with d0 := (dsyn s.d0 s.d1 i).1, d1 := (dsyn s.d0 s.d1 i).2 }
theorem shc_set44 (s : Sh) (sl : Sl) (mp : Option Addr) (n : Int) (h8 : Lg8 s.log) : (shc s sl mp).setIfInBounds 44 (.int .i64 n) = shc { s with safe := n } sl mp := by
 unfold shc lgin
 rw [List.setIfInBounds_toArray]
 rw [List.set_append_right _ _ (by simp [shP]), List.set_append_right _ _ (by rw [lgl_len h8]; simp [shP])]
 have e : 44 - (shP s).length - (lgl s.log sl).length = 1 := by rw [lgl_len h8]; rfl
 rw [e]
 rfl
def slotOf (s : Sh) (i : Nat) : Slt := if i = 0 then s.d0 else s.d1
end Go.Proofs.Ytokngfinnieccaa
namespace Go.Proofs.Ytokngfinnieccaa
open Go.ChangeShapes Go.WideShapes Go.RowKit
set_option linter.unusedVariables false
set_option linter.unusedSimpArgs false
set_option maxRecDepth 100000
set_option maxHeartbeats 4000000
def cnt : List Fm → Nat → Nat
 | [], _ => 0
 | f :: fs, k => if f.2.size + 7 ≤ k then cnt fs (k - (f.2.size + 7)) + 1 else 0
theorem nextE_mv {l l' : Lg} {n : Nat} {r : Rv} (ht : l'.table = l.table) (hb : l'.base + (l'.revs.length : Int) = l.base + (l.revs.length : Int)) (hl : l'.revs.length ≤ l.revs.length) (h : nextE l n r = 0) : nextE l' n r = 0 := by
 obtain ⟨a, b, c, d, e⟩ := next_len h
 unfold nextE
 rw [if_neg (by omega), ht, if_neg (by omega), if_neg (by omega)]
 exact e
theorem okRs_mv : ∀ (rs : List Rv) (l l' : Lg) (t : ByteArray), l'.table = l.table → l'.base + (l'.revs.length : Int) = l.base + (l.revs.length : Int) → l'.revs.length ≤ l.revs.length → okRs l t rs → okRs l' t rs
 | [], l, l', t, _, _, _, _ => trivial
 | r :: rs, l, l', t, h1, h2, h3, h => by
   obtain ⟨a, b, c⟩ := h
   refine ⟨a, nextE_mv h1 h2 h3 b, okRs_mv rs _ _ _ ?_ ?_ ?_ c⟩
   · simp only [addL]
     rw [h1]
     congr 2
     omega
   · simp only [addL, List.length_append, List.length_singleton]
     omega
   · simp only [addL, List.length_append, List.length_singleton]
     omega
theorem okRs_app : ∀ (a b : List Rv) (l : Lg) (t : ByteArray), okRs l t (a ++ b) ↔ okRs l t a ∧ okRs (addLs l a) (txt t a a.length) b
 | [], b, l, t => by simp [okRs, addLs, txt]
 | r :: a, b, l, t => by
   simp only [List.cons_append, okRs, addLs, List.length_cons, txt]
   rw [okRs_app a b]
   constructor
   · rintro ⟨x, y, z, u⟩; exact ⟨⟨x, y, z⟩, u⟩
   · rintro ⟨⟨x, y, z⟩, u⟩; exact ⟨x, y, z, u⟩
theorem okRs_txr : ∀ (rs : List Rv) (l : Lg) (t : ByteArray), okRs l t rs → txr t rs = 0
 | [], _, _, _ => rfl
 | r :: rs, l, t, h => by
   obtain ⟨a, b, c⟩ := h
   obtain ⟨_, _, _, _, e⟩ := next_len b
   simp only [txr]
   rw [if_neg (by omega), if_neg (by
    have : doE r.2.2 t = 0 := e
    omega)]
   exact okRs_txr rs _ _ c
theorem okRs_len : ∀ (rs : List Rv) (l : Lg) (t : ByteArray), okRs l t rs → rs = [] ∨ l.revs.length + rs.length ≤ 64
 | [], _, _, _ => .inl rfl
 | r :: rs, l, t, h => by
   obtain ⟨a, b, c⟩ := h
   obtain ⟨_, _, d, _, _⟩ := next_len b
   rcases okRs_len rs _ _ c with h | h
   · subst h; right; simp; omega
   · right
     simp only [addL, List.length_append, List.length_singleton, List.length_cons] at h ⊢
     omega
theorem okRs_base : ∀ (rs : List Rv) (l : Lg) (t : ByteArray), okRs l t rs → rs = [] ∨ l.base + (l.revs.length : Int) + (rs.length : Int) ≤ 2147483647
 | [], _, _, _ => .inl rfl
 | r :: rs, l, t, h => by
   obtain ⟨a, b, c⟩ := h
   obtain ⟨_, _, _, d, _⟩ := next_len b
   rcases okRs_base rs _ _ c with h | h
   · subst h; right; simp; omega
   · right
     simp only [addL, List.length_append, List.length_singleton, List.length_cons] at h ⊢
     omega
theorem okRs_one : ∀ (rs : List Rv) (l : Lg) (t : ByteArray), okRs l t rs → ∀ r ∈ rs, oneE r = 0
 | [], _, _, _, r, hr => by simp at hr
 | q :: rs, l, t, h, r, hr => by
   rcases List.mem_cons.1 hr with rfl | hr
   · exact h.1
   · exact okRs_one rs _ _ h.2.2 r hr
theorem addLs_tbl : ∀ (rs : List Rv) (l : Lg), (addLs l rs).table = tblF (l.base + (l.revs.length : Int)) l.table rs
 | [], l => rfl
 | r :: rs, l => by
   simp only [addLs, tblF]
   rw [addLs_tbl rs]
   simp only [addL, List.length_append, List.length_singleton]
   have : l.base + ((l.revs.length + 1 : Nat) : Int) = l.base + (l.revs.length : Int) + 1 := by omega
   rw [this]
/-! a slot's frames -/
structure HdI (g b : Nat) (t : List (Nat × Nat)) (tx : ByteArray) : Prop where
 len : t.length = 8
 g : g ≤ 2147483647
 b : b ≤ 2147483647
 t : ∀ p ∈ t, p.1 ≤ 2147483647 ∧ p.2 ≤ 2147483647
 tx : tx.size ≤ 500
def SF (g b : Nat) (t : List (Nat × Nat)) (tx : ByteArray) (r1 : List Rv) (r2 : Option (List Rv)) : List Fm :=
 hf g b t tx :: (r1.map frR ++ match r2 with | none => [] | some l => doneF :: l.map frR)
def sfL (g b : Nat) (t : List (Nat × Nat)) (tx : ByteArray) (rs : List Rv) (wh : Bool) (good : Int) : Lg := ⟨g, b, tx, tbN t, tblF b (tbN t) rs, rs, wh, good⟩
variable {g b : Nat} {t : List (Nat × Nat)} {tx : ByteArray}
theorem SF_done (r1 : List Rv) : SF g b t tx r1 (some []) = SF g b t tx r1 none ++ [doneF] := by simp [SF]
theorem SF_snoc2 (r1 r2 : List Rv) (r : Rv) : SF g b t tx r1 (some (r2 ++ [r])) = SF g b t tx r1 (some r2) ++ [frR r] := by simp [SF]
theorem SF_ok (h : HdI g b t tx) (r1 : List Rv) (r2 : Option (List Rv)) (h1 : ∀ r ∈ r1, oneE r = 0) (h2 : ∀ l, r2 = some l → ∀ r ∈ l, oneE r = 0) : ∀ p ∈ SF g b t tx r1 r2, okF p := by
 intro p hp
 unfold SF at hp
 rcases List.mem_cons.1 hp with rfl | hp
 · exact hf_ok g b t tx h.len h.g h.b h.t h.tx
 · rcases List.mem_append.1 hp with hp | hp
   · exact frs_ok r1 h1 p hp
   · cases r2 with
     | none => simp at hp
     | some l =>
       rcases List.mem_cons.1 hp with rfl | hp
       · exact doneF_ok
       · exact frs_ok l (h2 l rfl) p hp
theorem SF_take2 (r1 r2 : List Rv) (i : Nat) : (SF g b t tx r1 (some r2)).take (r1.length + i + 2) = SF g b t tx r1 (some (r2.take i)) := by
 unfold SF
 rw [show r1.length + i + 2 = (r1.length + i + 1) + 1 by omega, List.take_succ_cons, List.take_append, List.length_map, List.take_of_length_le (by simp; omega), show r1.length + i + 1 - r1.length = i + 1 by omega, List.take_succ_cons, ← List.map_take]
theorem SF_len (r1 : List Rv) (r2 : Option (List Rv)) : (SF g b t tx r1 r2).length = 1 + r1.length + (match r2 with | none => 0 | some l => 1 + l.length) := by
 unfold SF
 cases r2 <;> simp <;> omega
theorem frR_len {r : Rv} (h : oneE r = 0) : (frR r).2.size + 7 ≤ 4007 := by have := (frR_ok h).2.2; omega
theorem flat_revs : ∀ rs : List Rv, (∀ r ∈ rs, oneE r = 0) → (flat (rs.map frR)).length ≤ 4007 * rs.length
 | [], _ => Nat.le_refl _
 | r :: rs, h => by
   have h1 := frR_len (h r (by simp))
   have h2 := flat_revs rs fun q hq => h q (List.mem_cons_of_mem _ hq)
   simp only [List.map_cons, flat, List.length_append, txF_len, List.length_cons]
   omega
theorem SF_size (h : HdI g b t tx) (r1 : List Rv) (r2 : Option (List Rv)) (h1 : ∀ r ∈ r1, oneE r = 0) (h2 : ∀ l, r2 = some l → ∀ r ∈ l, oneE r = 0) : (flat (SF g b t tx r1 r2)).length ≤ 610 + 4007 * (r1.length + (match r2 with | none => 0 | some l => l.length)) := by
 have a := headB_len g b t tx h.len h.g h.b h.t
 have a2 : (hf g b t tx).2.size = (headB ((g, b) :: t) tx).length := List.size_toArray
 have a3 := h.tx
 have c := flat_revs r1 h1
 unfold SF
 simp only [flat, List.length_append, flat_app, txF_len]
 cases r2 with
 | none => simp only [flat, List.length_nil]; omega
 | some l =>
   have d := flat_revs l (h2 l rfl)
   simp only [flat, List.length_append, txF_len]
   have e : doneF.2.size = 0 := rfl
   omega
theorem hot_SF2 (h : HdI g b t tx) (r1 r2 : List Rv) (hok : okRs (L0 g b t tx) tx (r1 ++ r2)) : hotE (SF g b t tx r1 (some r2)) = 0 ∧ hotL (SF g b t tx r1 (some r2)) = sfL g b t tx (r1 ++ r2) true (flat (SF g b t tx r1 (some r2))).length := by
 obtain ⟨e1, e2⟩ := hot_head g b t tx (r1.map frR ++ doneF :: r2.map frR) h.len h.g h.b h.t h.tx
 refine ⟨e1, ?_⟩
 have e3 : hotL (SF g b t tx r1 (some r2)) = readF (L0 g b t tx) tx (r1.map frR ++ doneF :: r2.map frR) := e2
 obtain ⟨o1, o2⟩ := (okRs_app r1 r2 _ _).1 hok
 obtain ⟨a, b', c, d, e, f, k⟩ := addLs_same r1 (L0 g b t tx)
 have tb := addLs_tbl r1 (L0 g b t tx)
 rw [e3, readF_revs r1 _ _ _ o1, show doneF = (3, ⟨#[]⟩) from rfl, readF_done _ _ _ (by rw [f]; rfl)]
 have o3 : okRs { addLs (L0 g b t tx) r1 with whole := true, good := (addLs (L0 g b t tx) r1).good + 7 } (txt tx r1 r1.length) r2 := okRs_mv r2 (addLs (L0 g b t tx) r1) _ _ rfl rfl (Nat.le_refl _) o2
 rw [← List.append_nil (r2.map frR), readF_revs r2 _ _ [] o3]
 obtain ⟨a2, b2, c2, d2, e2', f2, k2⟩ := addLs_same r2 { addLs (L0 g b t tx) r1 with whole := true, good := (addLs (L0 g b t tx) r1).good + 7 }
 have tb2 := addLs_tbl r2 { addLs (L0 g b t tx) r1 with whole := true, good := (addLs (L0 g b t tx) r1).good + 7 }
 have tb3 : tblF (b : Int) (tbN t) (r1 ++ r2) = tblF ((b : Int) + (r1.length : Int)) (tblF b (tbN t) r1) r2 := by
  have h1 := addLs_tbl (r1 ++ r2) (L0 g b t tx)
  have h2 := tb2
  clear e1 e2 e3 o1 o2 o3 h1 h2
  have key : ∀ (r1 : List Rv) (n : Int) (T : Tb), tblF n T (r1 ++ r2) = tblF (n + (r1.length : Int)) (tblF n T r1) r2 := by
   intro r1
   induction r1 with
   | nil => intro n T; simp [tblF]
   | cons r r1 ih => intro n T; rw [List.cons_append, tblF, ih, tblF, List.length_cons]; congr 1; omega
  exact key r1 _ _
 have hg : (addLs { addLs (L0 g b t tx) r1 with whole := true, good := (addLs (L0 g b t tx) r1).good + 7 } r2).good = ((flat (SF g b t tx r1 (some r2))).length : Nat) := by
  rw [k2]
  simp only [k]
  simp only [SF, L0, flat, flat_app, List.length_append, txF_len]
  have : (hf g b t tx).2.size = (headB ((g, b) :: t) tx).length := List.size_toArray
  have e : doneF.2.size = 0 := rfl
  omega
 show addLs _ r2 = _
 generalize addLs { addLs (L0 g b t tx) r1 with whole := true, good := (addLs (L0 g b t tx) r1).good + 7 } r2 = X at *
 cases X
 simp only [a, b', c, d, e, tb] at a2 b2 c2 d2 e2' f2 tb2 hg
 simp only [L0, List.length_nil, Int.natCast_zero, Int.add_zero, List.nil_append, Int.ofNat_zero] at a2 b2 c2 d2 e2' f2 tb2 hg
 subst a2 b2 c2 d2 e2' f2 tb2 hg
 simp [sfL, tb3]
end Go.Proofs.Ytokngfinnieccaa
