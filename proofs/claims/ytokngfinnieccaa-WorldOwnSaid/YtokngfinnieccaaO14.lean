/- Contract of shop.Disk. The archive without a move, as it grows (pure); the law's helper filled. Contract of the laws' helper filled. Contract of shop.Revs. The archive in memory, with the blocks that are its own; its methods in these words. Contract of shop.table. Contracts of shop.Step, case by case, and of shop.Sync, shop.Last, shop.Safe. Contract of shop.Step, as a whole move takes the log's place. The frames of a slot: a head, revisions, Done, revisions; what a cut leaves of them (pure). The archive with its moves: what always holds of it, and what Add, Keep, Step, Sync make of that (pure). -/
import Derived.Test.YtokngfinnieccaaO12
import Derived.Test.YtokngfinnieccaaO13
namespace Go.Proofs.Ytokngfinnieccaa
open Go.ChangeShapes Go.WideShapes Go.RowKit
set_option linter.unusedVariables false
set_option linter.unusedSimpArgs false
set_option maxRecDepth 100000
set_option maxHeartbeats 4000000

theorem sbad_ok {x : Slt} (h1 : x.1.size ≤ 1048576) (h2 : 0 ≤ x.2) (h3 : x.2 ≤ (x.1.size : Int)) : sbad x = 0 := by
 unfold sbad
 rw [if_neg (by omega), if_neg (by omega)]
theorem frB_size {r : Rv} (h : oneE r = 0) : (frB r).size ≤ 4007 := by
 have h1 : (frB r).data.toList.length = (frB r).size := rfl
 rw [frB_tx, txF_len] at h1
 have := (frR_ok h).2.2
 omega

theorem wpList_app_revO {ops : Array Oper} {rest : List Oper} {o : Oper} {a : Act} {Q : Exit → Act → World → Prop} (w : World) (hgd : o.guard = none) (s x : Operand)
 (ho : o.op = .call { callee := .builtin .append, args := #[s, x], argTypes := #[24, 24] })
 (B : Nat) (v : Value) (ss : List Sl) (l : List Rv) (hs : a.eval s = v) (hown : OwnV w B v ss l)
 (r : Rv) (d : Sl) (hd : OwnP w B (.slice d.1 d.2.1 d.2.2) r.2.2) (ht : ∀ p ∈ r.2.2, p.2.2.size ≤ 140737488351232) (c : Nat) (hx : a.eval x = .slice (some ⟨w.heap.size, 0, none⟩) 1 c)
 (hn : l.length ≤ 100000000) (hB : B ≤ w.heap.size)
 (h : ∀ v' w', OwnV w' B v' (ss ++ [d]) (l ++ [r]) → Below B w w' → wpList Try.prog ops Q rest (a.put o.dst v') w') :
 wpList Try.prog ops Q (o :: rest) a (w.alloc (.cells #[.int .i64 r.1, .int .i64 r.2.1, .slice d.1 d.2.1 d.2.2] 30)) :=
 wpList_step fun K hK => step_app_rev w hgd s x ho B v ss l hs hown r d hd ht c hx hn hB fun v' w' h1 h2 _ _ => hK _ _ (h v' w' h1 h2)
theorem RdR.from {w : World} {B n c : Nat} {A : Option Addr} {l : List Rv} (h : RdR w B A n c l) (k : Nat) (hk : k ≤ n) : RdR w B (if c = k then A else Option.map (fun x : Addr => x.add (k * 3)) A) (n - k) (c - k) (l.drop k) := by
 refine h.drop k hk _ fun hlt b o e => ?_
 have := h.caps
 rw [if_neg (by omega), e]
 simp only [Option.map_some, Addr.add]
 by_cases h0 : k * 3 = 0
 · simp [h0]
 · simp [h0]
theorem srevs_good (q : Nat) (s : Sh) (sl : Sl) (mp : Option Addr) (r : Int) (k : Nat) (w : World) (hk : Blk w q 134 (shc s sl mp)) (h8 : Lg8 s.log) (hsl : sl.2.1 = s.log.revs.length) (hb0 : 0 ≤ s.log.base) (hb1 : s.log.base ≤ 2147483647) (hr : s.log.revs.length ≤ 1000) (hrk : r = s.log.base + k) (hkl : k ≤ s.log.revs.length)
 (hv : RdR w w.heap.size sl.1 sl.2.1 sl.2.2 s.log.revs) (hsm : ∀ r ∈ s.log.revs, r.2.2.length ≤ 1600) :
 Calls Try.prog 50 #[.pointer (some ⟨q, 0, none⟩), .int .i64 r] w fun e w' => ∃ (sl' : Sl) (ss : List Sl), e = .returned (.tuple #[.slice sl'.1 sl'.2.1 sl'.2.2, .int .i64 0]) ∧ OwnV w' w.heap.size (.slice sl'.1 sl'.2.1 sl'.2.2) ss (s.log.revs.drop k) ∧ Below w.heap.size w w' := by
 have hc := there_any q s sl mp r w hk h8 hsl hb0 hb1 hr
 rw [if_neg (by omega), if_neg (by omega)] at hc
 obtain ⟨A, n, c⟩ := sl
 simp only at hsl hv
 obtain ⟨Ba, hBa⟩ : ∃ Ba, s.log.base = Ba := ⟨_, rfl⟩
 have c6 : (shc s (A, n, c) mp)[6]? = some (.int .i64 Ba) := by rw [← hBa]; exact shc_base h8
 rw [hBa] at hrk hb0 hb1
 have c40 : (shc s (A, n, c) mp)[40]? = some (.slice A n c) := shc_revs h8
 have hw : IntKind.i64.wrap (r - Ba) = (k : Int) := by rw [hrk, show Ba + (k : Int) - Ba = k by omega]; exact IntWalk.i64_in _ (by omega)
 have hcap := hv.caps
 have hvk := hv.from k (by omega)
 obtain ⟨L, hL⟩ : ∃ L, s.log.revs.drop k = L := ⟨_, rfl⟩
 have hsL : ∀ r ∈ L, r.2.2.length ≤ 1600 := by rw [← hL]; exact fun r hr => hsm r (List.mem_of_mem_drop hr)
 have hLl : L.length = n - k := by rw [← hL, List.length_drop, hsl]
 rw [hL] at hvk ⊢
 have hkn : k ≤ n := by omega
 have hn1 : n ≤ 1000 := by omega
 have Hc := Lib.hid hc
 have HsL := Lib.hid hsL
 have HLl := Lib.hid hLl
 have lq := hk.lt
 have hk0 : (0 : Int) ≤ (k : Int) := by omega
 have hkI : (k : Int) ≤ (n : Int) := by omega
 have hkc : (k : Int) ≤ (c : Int) := by omega
 clear hc hsL hLl hv hL hBa hrk hr hb0 hb1 hsl h8 hsm hkl
 go_enter Try.func50, Try.ntmps50
 go_wp2_with fail
 refine Hc.out.mono ?_
 rintro e w1 ⟨rfl, hb⟩
 have k1 := hk.below hb lq
 have d6 := k1.cell 6
 have d40 := k1.cell 40
 rw [c6] at d6
 rw [c40] at d40
 have l1 := k1.lt
 have Hv1 := Lib.hid hvk
 have Hb := Lib.hid hb
 clear hvk hb c6 c40 hk lq Hc k1
 go_upto_region 5 with (fail)
 by_cases hck : c = k
 · skip
   go_quiet (fail)
   have Hb2 := Lib.hid (below_drewN_ Hb.out nq)
   have hr2 := Hv1.out
   obtain ⟨wn, hU_⟩ : ∃ U_, w1.drewN nq = U_ := ⟨_, rfl⟩
   rw [hU_] at Hb2 ⊢
   clear hU_ d6 d40 l1 Hv1 Hb
   rw [if_pos hck] at hr2
   obtain ⟨m, hm⟩ : ∃ m, n - k = m := ⟨_, rfl⟩
   have hmI : (n : Int) - (k : Int) = (m : Int) := by omega
   obtain ⟨A', hA'⟩ : ∃ A', A = A' := ⟨_, rfl⟩
   obtain ⟨c', hc'⟩ : ∃ c', c - k = c' := ⟨_, rfl⟩
   rw [hm, hc'] at hr2
   subst hA'
   have HR := Lib.hid hr2
   have hml : m = L.length := by rw [HLl.out, hm]
   have Hml := Lib.hid hml
   have hm9 : m ≤ 1000 := by omega
   clear hr2 hml
   try rw [hm, hc']
   go_wp2_with fail
   go_loopw [7, 9, 30] (fun vv z iv wr => ∃ (j nv cv : Nat) (Av : Option Addr) (ss : List Sl), j ≤ m ∧ iv = .int .i64 j ∧ vv = .slice Av nv cv ∧ Hid (OwnV wr w.heap.size (.slice Av nv cv) ss (L.take j)) ∧ Hid (Below w.heap.size w wr)) (fun _ _ iv _ => m - (intOf iv).toNat)
   case atStart => exact ⟨0, 0, 0, none, [], by omega, rfl, rfl, Lib.hid (OwnV.nil _ _), Hb2⟩
   case round =>
    obtain ⟨j, nv, cv, Av, ss, hj, rfl, rfl, hO, hbw⟩ := hrel
    by_cases hlt : j < m
    · exact absurd hlt (by omega)
    · obtain rfl : j = m := by omega
      have hO := hO.out
      rw [List.take_of_length_le (by have := Hml.out; omega)] at hO
      go_wp2_with fail
      go_ret2
      exact ⟨(Av, nv, cv), ss, rfl, hO, hbw.out⟩
 · skip
   go_quiet (fail)
   have Hb2 := Lib.hid (below_drewN_ Hb.out nq)
   have hr2 := Hv1.out
   obtain ⟨wn, hU_⟩ : ∃ U_, w1.drewN nq = U_ := ⟨_, rfl⟩
   rw [hU_] at Hb2 ⊢
   clear hU_ d6 d40 l1 Hv1 Hb
   rw [if_neg hck] at hr2
   obtain ⟨m, hm⟩ : ∃ m, n - k = m := ⟨_, rfl⟩
   have hmI : (n : Int) - (k : Int) = (m : Int) := by omega
   obtain ⟨A', hA'⟩ : ∃ A', Option.map (fun x : Addr => x.add (k * 3)) A = A' := ⟨_, rfl⟩
   obtain ⟨c', hc'⟩ : ∃ c', c - k = c' := ⟨_, rfl⟩
   rw [hm, hA', hc'] at hr2
   have HR := Lib.hid hr2
   have hml : m = L.length := by rw [HLl.out, hm]
   have Hml := Lib.hid hml
   have hm9 : m ≤ 1000 := by omega
   clear hr2 hml
   try rw [hm, hA', hc']
   go_wp2_with fail
   go_loopw [7, 9, 30] (fun vv z iv wr => ∃ (j nv cv : Nat) (Av : Option Addr) (ss : List Sl), j ≤ m ∧ iv = .int .i64 j ∧ vv = .slice Av nv cv ∧ Hid (OwnV wr w.heap.size (.slice Av nv cv) ss (L.take j)) ∧ Hid (Below w.heap.size w wr)) (fun _ _ iv _ => m - (intOf iv).toNat)
   case atStart => exact ⟨0, 0, 0, none, [], by omega, rfl, rfl, Lib.hid (OwnV.nil _ _), Hb2⟩
   case round =>
    obtain ⟨j, nv, cv, Av, ss, hj, rfl, rfl, hO, hbw⟩ := hrel
    by_cases hlt : j < m
    · have hjl : j < L.length := by have := Hml.out; omega
      obtain ⟨g, o, A1, n1, c1, rfl, hg, d0, d1, d2, hrd⟩ := (HR.out.below hbw.out).at_ j hlt
      have htk := Lib.hid (show L.take (j + 1) = L.take j ++ [L[j]] from List.take_succ_eq_append_getElem hjl)
      have hsm1 := HsL.out L[j] (List.getElem_mem hjl)
      obtain ⟨pp, hp⟩ : ∃ pp, L[j] = pp := ⟨_, rfl⟩
      rw [hp] at d0 d1 hrd htk hsm1
      obtain ⟨ra, rb, d⟩ := pp
      simp only at d0 d1 d2 hrd hsm1
      have hj0 : (0 : Int) ≤ (j : Int) := by omega
      have hjm : (j : Int) < (m : Int) := by omega
      have hws := hbw.out.size
      have hgw : g < wr.heap.size := by omega
      have Hnd := Lib.hid hrd.1.symm
      have hn16 : n1 ≤ 1600 := by rw [hrd.1]; exact hsm1
      clear hsm1
      have Hdt := Lib.hid hrd.2.2
      go_upto_region 8 with (fail)
      have hal := (Below.refl wr.heap.size wr).alloc (Nat.le_refl _) (.cells #[.int .i64 ra, .int .i64 rb, .slice A1 n1 c1] 30)
      have hzr0 := own_lt hO.out.row
      have kz := Blk.new wr 30 #[.int .i64 ra, .int .i64 rb, .slice A1 n1 c1]
      have Hrd := Lib.hid ((hrd.more hws).stepA (.cells #[.int .i64 ra, .int .i64 rb, .slice A1 n1 c1] 30))
      have HO := Lib.hid (hO.out.below hal)
      have Hbw := Lib.hid (hbw.out.trans (hal.mono hws))
      have hs1 : (wr.alloc (.cells #[.int .i64 ra, .int .i64 rb, .slice A1 n1 c1] 30)).heap.size = wr.heap.size + 1 := World.size_alloc _ _
      obtain ⟨U, hU⟩ : ∃ U, wr.alloc (.cells #[.int .i64 ra, .int .i64 rb, .slice A1 n1 c1] 30) = U := ⟨_, rfl⟩
      rw [hU] at kz Hrd HO Hbw hs1 ⊢
      obtain ⟨z, hz⟩ : ∃ z, wr.heap.size = z := ⟨_, rfl⟩
      rw [hz] at kz hs1 hws hzr0 ⊢
      have hzr := Lib.hid hzr0
      clear hzr0
      clear hU hal hrd d0 d1 d2 hgw hO hbw hz hp
      have a2 := kz.cell 2
      have f2 := kz.frozen 2
      have lz := kz.lt
      have Kz := Lib.hid kz
      have Hn := Lib.hid (show ([] : List Pt).length + n1 ≤ 4000000 by simp; omega)
      clear kz
      go_upto_region 9 with (first | (refine wpList_app_partsC _ rfl (.const (.slice none 0 0)) (.tmp 35) rfl U.heap.size _ [] rfl (OwnP.nil _ _) A1 n1 c1 _ d rfl Hrd.out Hn.out (Nat.le_refl _) ?_; intro vd wd qd hvd; rw [List.nil_append] at qd; obtain ⟨A5, c5, rfl⟩ := qd.form_ (n := n1) Hnd.out; have kr_ := Kz.out.below hvd lz; have s2 := kr_.cell 2; have t2 := kr_.frozen 2; have lr_ := kr_.lt))
      have kr5 : Blk (wd.setCell ⟨z, 2, none⟩ (.slice A5 n1 c5)) z 30 #[.int .i64 ra, .int .i64 rb, .slice A5 n1 c5] := kr_.set_ 2 (.slice A5 n1 c5)
      have oD := own_only qd (Only.setSelf wd z 2 (.slice A5 n1 c5)) (fun k hk e => by have e : k = z := e; rw [e] at hk; exact own_blk_ne qd kr_ (by decide) hk)
      have hOd := HO.out.below hvd
      have hrz : ∀ k, (Value.slice Av nv cv).ownBlock = some k → ¬ k = z := fun k hk e => by have := hzr.out k hk; omega
      have hO5 := hOd.only (Only.setSelf wd z 2 (.slice A5 n1 c5)) hrz (fun j hj k hk e => by have e : k = z := e; rw [e] at hk; exact own_blk_ne (hOd.ds j hj).1 kr_ (by decide) hk)
      have hb5 := (Hbw.out.trans (hvd.mono (by omega))).setCell (p := ⟨z, 2, none⟩) (by simp only; omega) (.slice A5 n1 c5)
      have hs5 : (wd.setCell ⟨z, 2, none⟩ (.slice A5 n1 c5)).heap.size = wd.heap.size := by simp
      have hsd := hvd.size
      obtain ⟨V5, hV5⟩ : ∃ V5, wd.setCell ⟨z, 2, none⟩ (.slice A5 n1 c5) = V5 := ⟨_, rfl⟩
      rw [hV5] at kr5 oD hO5 hb5 hs5 ⊢
      clear hV5 hvd qd kr_ s2 t2 lr_ a2 f2 lz Kz Hrd HO hOd
      have HO5 := Lib.hid hO5
      have HD := Lib.hid (own_base oD (show w.heap.size ≤ U.heap.size by omega))
      have Hlen : Hid ((L.take j).length ≤ 100000000) := Lib.hid (by rw [List.length_take]; omega)
      have HB5 : Hid (w.heap.size ≤ V5.heap.size) := Lib.hid (by omega)
      have Hb5 := Lib.hid hb5
      have a0 := kr5.cell 0
      have a1 := kr5.cell 1
      have a2 := kr5.cell 2
      have lz := kr5.lt
      clear oD hO5 hb5 kr5 hs5
      go_wp2_with (first | (at_builtin; refine wpList_app_revO V5 rfl (.tmp 38) (.tmp 40) rfl w.heap.size (.slice Av nv cv) ss (L.take j) rfl HO5.out (ra, rb, d) (A5, n1, c5) HD.out Hdt.out 1 rfl Hlen.out HB5.out ?_; intro v9 w9 g1 g2))
      obtain ⟨A9, c9, e9⟩ := g1.form
      subst e9
      go_roundw
      case rel => exact ⟨j + 1, _, c9, A9, ss ++ [(A5, n1, c5)], by omega, by go_num, rfl, Lib.hid (by rw [htk.out]; exact g1), Lib.hid (Hb5.out.trans g2)⟩
      case measure => simp [intOf]; omega
    · obtain rfl : j = m := by omega
      have hO := hO.out
      rw [List.take_of_length_le (by have := Hml.out; omega)] at hO
      go_wp2_with fail
      go_ret2
      exact ⟨(Av, nv, cv), ss, rfl, hO, hbw.out⟩
abbrev Mv := Int × Int × Bool
def whM : Option Mv → Bool
 | none => false
 | some v => v.2.2
def MvM (w : World) (F : Nat → Prop) (m : Option Mv) (mp : Option Addr) : Prop :=
 match m with
 | none => mp = none
 | some v => ∃ g, mp = some ⟨g, 0, none⟩ ∧ F g ∧ Blk w g 141 #[.int .i64 v.1, .int .i64 v.2.1, .bool v.2.2]
def grow (F : Nat → Prop) (w w' : World) (k : Nat) : Prop := F k ∨ (w.heap.size ≤ k ∧ k < w'.heap.size)
structure ShM (w : World) (F : Nat → Prop) (q : Nat) (s : Sh) (m : Option Mv) : Prop where
 fq : F q
 lt : ∀ k, F k → k < w.heap.size
 ex : ∃ (sl : Sl) (ss : List Sl) (mp : Option Addr), Blk w q 134 (shc s sl mp) ∧ OwnV w 0 (.slice sl.1 sl.2.1 sl.2.2) ss s.log.revs ∧ (∀ k, (Value.slice sl.1 sl.2.1 sl.2.2).ownBlock = some k → F k) ∧ (∀ d ∈ ss, ∀ k, (Value.slice d.1 d.2.1 d.2.2).ownBlock = some k → F k) ∧ MvM w F m mp
theorem MvM.only {w w' : World} {F S : Nat → Prop} {m : Option Mv} {mp : Option Addr} (h : MvM w F m mp) (ho : Only w w' S) (hd : ∀ k, F k → ¬ S k) : MvM w' F m mp := by
 cases m with
 | none => exact h
 | some v =>
   obtain ⟨g, e, hg, hk⟩ := h
   exact ⟨g, e, hg, hk.only ho (hd g hg)⟩
theorem MvM.mono {w : World} {F G : Nat → Prop} {m : Option Mv} {mp : Option Addr} (h : MvM w F m mp) (hF : ∀ k, F k → G k) : MvM w G m mp := by
 cases m with
 | none => exact h
 | some v =>
   obtain ⟨g, e, hg, hk⟩ := h
   exact ⟨g, e, hF g hg, hk⟩
theorem ShM.only {w w' : World} {F S : Nat → Prop} {q : Nat} {s : Sh} {m : Option Mv} (h : ShM w F q s m) (ho : Only w w' S) (hd : ∀ k, F k → ¬ S k) : ShM w' F q s m := by
 obtain ⟨sl, ss, mp, hk, hv, hr, hs, hm⟩ := h.ex
 refine ⟨h.fq, fun k hk => Nat.lt_of_lt_of_le (h.lt k hk) ho.2.2.2.1, sl, ss, mp, hk.only ho (hd q h.fq), hv.only ho (fun k hk => hd k (hr k hk)) (fun j hj k hk => hd k (hs _ (List.getElem_mem _) k hk)), hr, hs, hm.only ho hd⟩
theorem ShM.below {w w' : World} {F : Nat → Prop} {q : Nat} {s : Sh} {m : Option Mv} (h : ShM w F q s m) (hb : Below w.heap.size w w') : ShM w' F q s m :=
 h.only (S := fun _ => False) (Only.of_below hb) (fun _ _ h => h)
theorem ShM.mono {w : World} {F G : Nat → Prop} {q : Nat} {s : Sh} {m : Option Mv} (h : ShM w F q s m) (hF : ∀ k, F k → G k) (hG : ∀ k, G k → k < w.heap.size) : ShM w G q s m := by
 obtain ⟨sl, ss, mp, hk, hv, hr, hs, hm⟩ := h.ex
 exact ⟨hF q h.fq, hG, sl, ss, mp, hk, hv, fun k hk => hF k (hr k hk), fun d hd k hk => hF k (hs d hd k hk), hm.mono hF⟩
theorem ShM.grow {w w' : World} {F : Nat → Prop} {q : Nat} {s : Sh} {m : Option Mv} (h : ShM w' F q s m) : ShM w' (grow F w w') q s m :=
 h.mono (fun k hk => .inl hk) (fun k hk => hk.elim (h.lt k) (·.2))
def addG (s : Sh) (m : Option Mv) (r : Rv) : Sh := if nextE s.log s.text.size r = 0 then (if whM m = true then addW s r else addS s r) else s
theorem sadd_M (q : Nat) (s : Sh) (m : Option Mv) (F : Nat → Prop) (a b : Int) (d : List Pt) (A : Option Addr) (n c : Nat) (w : World) (h : ShM w F q s m) (hg : Hg s.log s.text) (hat : s.at_ ≤ 1) (hl : dlook s.d0 s.d1 s.at_ = 0)
 (hl2 : whM m = true → nextE s.log s.text.size (a, b, d) = 0 → dlook (putS s s.at_ (frB (a, b, d))).d0 (putS s s.at_ (frB (a, b, d))).d1 ((1 - s.at_ : Nat) : Int) = 0) (hd : RdP w w.heap.size A n c d) :
 Calls Try.prog 42 #[.pointer (some ⟨q, 0, none⟩), .agg #[.int .i64 a, .int .i64 b, .slice A n c]] w fun e w' =>
  e = .returned (.tuple #[.int .i64 (if nextE s.log s.text.size (a, b, d) = 0 then s.log.base + (s.log.revs.length + 1 : Nat) else 0), .int .i64 (nextE s.log s.text.size (a, b, d))]) ∧ ShM w' (grow F w w') q (addG s m (a, b, d)) m ∧ Only w w' F := by
 obtain ⟨sl, ss, mp, hk, hv, hr, hs, hm⟩ := h.ex
 have hsl : sl.2.1 = s.log.revs.length := by obtain ⟨A9, c9, e9⟩ := hv.form; injection e9
 have hlen := hg.len
 by_cases he : nextE s.log s.text.size (a, b, d) = 0
 · rw [if_pos he, he]
   obtain ⟨p1, p2, -⟩ := one_parts (next_len he).1
   simp only at p1 p2
   obtain ⟨x, rfl⟩ := Int.eq_ofNat_of_zero_le p1
   have key : ∀ (s' : Sh) (mp' : Option Addr) (w' : World) (sl' d' : Sl), s'.log.revs = s.log.revs ++ [((x : Int), b, d)] → Blk w' q 134 (shc s' sl' mp) → OwnV w' 0 (.slice sl'.1 sl'.2.1 sl'.2.2) (ss ++ [d']) (s.log.revs ++ [((x : Int), b, d)]) → (∀ k, (Value.slice d'.1 d'.2.1 d'.2.2).ownBlock = some k → w.heap.size ≤ k) →
    Only w w' (fun k => k = q ∨ (Value.slice sl.1 sl.2.1 sl.2.2).ownBlock = some k) → ((Value.slice sl'.1 sl'.2.1 sl'.2.2).ownBlock = (Value.slice sl.1 sl.2.1 sl.2.2).ownBlock ∨ ∀ k, (Value.slice sl'.1 sl'.2.1 sl'.2.2).ownBlock = some k → w.heap.size ≤ k) →
    ShM w' (Go.Proofs.Ytokngfinnieccaa.grow F w w') q s' m ∧ Only w w' F := by
    intro s' mp' w' sl' d' er hk' hv' hd' ho hn
    have hof : Only w w' F := ho.mono fun k _ hk => by
     rcases hk with rfl | hk
     · exact h.fq
     · exact hr k hk
    refine ⟨⟨.inl h.fq, fun k hk => hk.elim (fun hk => Nat.lt_of_lt_of_le (h.lt k hk) ho.2.2.2.1) (·.2), sl', ss ++ [d'], mp, hk', by rw [er]; exact hv', fun k hk => ?_, fun e he k hk => ?_, ?_⟩, hof⟩
    · rcases hn with hn | hn
      · exact .inl (hr k (hn ▸ hk))
      · exact .inr ⟨hn k hk, own_lt hv'.row k hk⟩
    · rcases List.mem_append.1 he with he | he
      · exact .inl (hs e he k hk)
      · rw [List.mem_singleton] at he
        subst he
        have hl9 := hv'.len
        have := (hv'.ds s.log.revs.length (by simp)).1
        have e5 : (ss ++ [e])[s.log.revs.length]'(by rw [hl9]; simp) = e := by
         have : s.log.revs.length = ss.length := by simp at hl9; omega
         simp [this]
        rw [e5] at this
        exact .inr ⟨hd' k hk, World.ownsRow.lt this k hk |>.2⟩
    · cases m with
      | none => exact hm
      | some v =>
        obtain ⟨g, eg, hfg, hkg⟩ := hm
        refine ⟨g, eg, .inl hfg, hkg.only ho ?_⟩
        rintro (e | e)
        · exact Blk.ne_ hkg hk (by decide) e
        · exact own_blk_ne hv.row hkg (by decide) e
   cases m with
   | none =>
     obtain rfl : mp = none := hm
     refine (sadd_g0 q s sl ss 0 x b d A n c w hk hg.l8 hsl hg.base0 hg.base1 (by omega) hd hv (Nat.zero_le _) (by omega) hg.txt he hl).mono ?_
     rintro e w' ⟨rfl, sl', d', hk', hv', hd', ho, hn⟩
     have e1 : addG s none ((x : Int), b, d) = addS s ((x : Int), b, d) := by unfold addG; rw [if_pos he]; rfl
     rw [e1]
     exact ⟨rfl, key _ none w' sl' d' rfl hk' hv' hd' ho hn⟩
   | some v =>
     obtain ⟨g, eg, hfg, hkg⟩ := hm
     subst eg
     obtain ⟨fl, cp, wh⟩ := v
     cases wh with
     | false =>
       refine (sadd_gn q s sl ss 0 x b d A n c w g fl cp hkg hk hg.l8 hsl hg.base0 hg.base1 (by omega) hd hv (Nat.zero_le _) (by omega) hg.txt he hl).mono ?_
       rintro e w' ⟨rfl, sl', d', hk', hv', hd', ho, hn⟩
       have e1 : addG s (some (fl, cp, false)) ((x : Int), b, d) = addS s ((x : Int), b, d) := by unfold addG; rw [if_pos he]; rfl
       rw [e1]
       exact ⟨rfl, key _ none w' sl' d' rfl hk' hv' hd' ho hn⟩
     | true =>
       refine (sadd_gy q s sl ss 0 x b d A n c w g fl cp hkg hk hg.l8 hsl hg.base0 hg.base1 (by omega) hd hv (Nat.zero_le _) (by omega) hg.txt he hl hat (hl2 rfl he)).mono ?_
       rintro e w' ⟨rfl, sl', d', hk', hv', hd', ho, hn⟩
       have e1 : addG s (some (fl, cp, true)) ((x : Int), b, d) = addW s ((x : Int), b, d) := by unfold addG; rw [if_pos he]; rfl
       rw [e1]
       exact ⟨rfl, key _ none w' sl' d' rfl hk' hv' hd' ho hn⟩
 · rw [if_neg he]
   refine (sadd_no q s sl mp a b d A n c w hk hg.l8 hsl hg.base0 hg.base1 (by omega) hd _ rfl he).mono ?_
   rintro e w' ⟨rfl, hb⟩
   have e1 : addG s m (a, b, d) = s := by unfold addG; rw [if_neg he]
   rw [e1]
   exact ⟨rfl, (h.below hb).grow, Only.of_below hb⟩
theorem stext_M (q : Nat) (s : Sh) (m : Option Mv) (F : Nat → Prop) (r : Int) (k : Nat) (w : World) (h : ShM w F q s m) (hg : Hg s.log s.text) (hrk : r = s.log.base + k) (hkl : k ≤ s.log.revs.length) :
 Calls Try.prog 47 #[.pointer (some ⟨q, 0, none⟩), .int .i64 r] w fun e w' => e = .returned (.tuple #[.string (txt s.log.text s.log.revs k), .int .i64 0]) ∧ Below w.heap.size w w' := by
 obtain ⟨sl, ss, mp, hk, hv, hr, hs, hm⟩ := h.ex
 have hsl : sl.2.1 = s.log.revs.length := by obtain ⟨A9, c9, e9⟩ := hv.form; injection e9
 exact stext_good q s sl mp r k w hk hg.l8 hsl hg.base0 hg.base1 (by have := hg.len; omega) hrk hkl hv.rd hg.tx
theorem stextno_M (q : Nat) (s : Sh) (m : Option Mv) (F : Nat → Prop) (r : Int) (w : World) (h : ShM w F q s m) (hg : Hg s.log s.text) (he : thE s.log r ≠ 0) :
 Calls Try.prog 47 #[.pointer (some ⟨q, 0, none⟩), .int .i64 r] w fun e w' => e = .returned (.tuple #[.string ⟨#[]⟩, .int .i64 (thE s.log r)]) ∧ Below w.heap.size w w' := by
 obtain ⟨sl, ss, mp, hk, hv, hr, hs, hm⟩ := h.ex
 have hsl : sl.2.1 = s.log.revs.length := by obtain ⟨A9, c9, e9⟩ := hv.form; injection e9
 exact stext_none q s sl mp r w hk hg.l8 hsl hg.base0 hg.base1 (by have := hg.len; omega) he
theorem shead_M (q : Nat) (s : Sh) (m : Option Mv) (F : Nat → Prop) (w : World) (h : ShM w F q s m) (hg : Hg s.log s.text) :
 Calls Try.prog 40 #[.pointer (some ⟨q, 0, none⟩)] w fun e w' => e = .returned (.int .i64 (s.log.base + s.log.revs.length)) ∧ Below w.heap.size w w' := by
 obtain ⟨sl, ss, mp, hk, hv, hr, hs, hm⟩ := h.ex
 have hsl : sl.2.1 = s.log.revs.length := by obtain ⟨A9, c9, e9⟩ := hv.form; injection e9
 exact shead_any q s sl mp w hk hg.l8 hsl hg.base0 hg.base1 (by have := hg.len; omega)
theorem txr_parts : ∀ (l : List Rv) (t : ByteArray), txr t l = 0 → ∀ r ∈ l, oneE r = 0
 | [], t, h, r, hr => by simp at hr
 | q :: l, t, h, r, hr => by
   simp only [txr] at h
   split at h
   · omega
   · split at h
     · omega
     · rename_i h1 h2
       rcases List.mem_cons.1 hr with rfl | hr
       · omega
       · exact txr_parts l _ h r hr
theorem Hg.ones {l : Lg} {t : ByteArray} (h : Hg l t) : ∀ r ∈ l.revs, oneE r = 0 := txr_parts _ _ (txE_parts h.tx).2.2
theorem Hg.small {l : Lg} {t : ByteArray} (h : Hg l t) : ∀ r ∈ l.revs, r.2.2.length ≤ 1600 := fun r hr => ((good_iff r.2.2).1 (one_good (h.ones r hr))).1
theorem srevs_M (q : Nat) (s : Sh) (m : Option Mv) (F : Nat → Prop) (r : Int) (k : Nat) (w : World) (h : ShM w F q s m) (hg : Hg s.log s.text) (hrk : r = s.log.base + k) (hkl : k ≤ s.log.revs.length) :
 Calls Try.prog 50 #[.pointer (some ⟨q, 0, none⟩), .int .i64 r] w fun e w' => ∃ (sl' : Sl) (ss : List Sl), e = .returned (.tuple #[.slice sl'.1 sl'.2.1 sl'.2.2, .int .i64 0]) ∧ OwnV w' w.heap.size (.slice sl'.1 sl'.2.1 sl'.2.2) ss (s.log.revs.drop k) ∧ Below w.heap.size w w' := by
 obtain ⟨sl, ss, mp, hk, hv, hr, hs, hm⟩ := h.ex
 have hsl : sl.2.1 = s.log.revs.length := by obtain ⟨A9, c9, e9⟩ := hv.form; injection e9
 exact srevs_good q s sl mp r k w hk hg.l8 hsl hg.base0 hg.base1 (by have := hg.len; omega) hrk hkl hv.rd hg.small
theorem ShM.new {w w' : World} {q : Nat} (hq : w.heap.size ≤ q) (hk : Blk w' q 134 (shc shN (none, 0, 0) none)) : ShM w' (fun k => w.heap.size ≤ k ∧ k < w'.heap.size) q shN none :=
 ⟨⟨hq, hk.lt⟩, fun k h => h.2, (none, 0, 0), [], none, hk, OwnV.nil _ _, fun k hk => by simp [Value.ownBlock] at hk, fun d hd => by simp at hd, rfl⟩
def tblF : Int → Tb → List Rv → Tb
 | _, t, [] => t
 | n, t, r :: l => tblF (n + 1) (t.set r.1.toNat (r.2.1, n + 1)) l
theorem tblF_snoc : ∀ (l : List Rv) (n : Int) (t : Tb) (r : Rv), tblF n t (l ++ [r]) = (tblF n t l).set r.1.toNat (r.2.1, n + (l.length : Int) + 1)
 | [], n, t, r => by simp [tblF]
 | q :: l, n, t, r => by
   rw [List.cons_append, tblF, tblF_snoc l, List.length_cons]
   simp only [tblF]
   congr 2
   omega
theorem tblF_len : ∀ (l : List Rv) (n : Int) (t : Tb), (tblF n t l).length = t.length
 | [], n, t => rfl
 | r :: l, n, t => by rw [tblF, tblF_len l, List.length_set]

def slotOf (s : Sh) (i : Nat) : Slt := if i = 0 then s.d0 else s.d1
end Go.Proofs.Ytokngfinnieccaa
namespace Go.Proofs.Ytokngfinnieccaa
open Go.ChangeShapes Go.WideShapes Go.RowKit
set_option linter.unusedVariables false
set_option linter.unusedSimpArgs false
set_option maxRecDepth 100000
set_option maxHeartbeats 4000000
def cnt : List Fm → Nat → Nat
 | [], _ => 0
 | f :: fs, k => if f.2.size + 7 ≤ k then cnt fs (k - (f.2.size + 7)) + 1 else 0
theorem nextE_mv {l l' : Lg} {n : Nat} {r : Rv} (ht : l'.table = l.table) (hb : l'.base + (l'.revs.length : Int) = l.base + (l.revs.length : Int)) (hl : l'.revs.length ≤ l.revs.length) (h : nextE l n r = 0) : nextE l' n r = 0 := by
 obtain ⟨a, b, c, d, e⟩ := next_len h
 unfold nextE
 rw [if_neg (by omega), ht, if_neg (by omega), if_neg (by omega)]
 exact e
theorem okRs_txr : ∀ (rs : List Rv) (l : Lg) (t : ByteArray), okRs l t rs → txr t rs = 0
 | [], _, _, _ => rfl
 | r :: rs, l, t, h => by
   obtain ⟨a, b, c⟩ := h
   obtain ⟨_, _, _, _, e⟩ := next_len b
   simp only [txr]
   rw [if_neg (by omega), if_neg (by
    have : doE r.2.2 t = 0 := e
    omega)]
   exact okRs_txr rs _ _ c
theorem okRs_len : ∀ (rs : List Rv) (l : Lg) (t : ByteArray), okRs l t rs → rs = [] ∨ l.revs.length + rs.length ≤ 64
 | [], _, _, _ => .inl rfl
 | r :: rs, l, t, h => by
   obtain ⟨a, b, c⟩ := h
   obtain ⟨_, _, d, _, _⟩ := next_len b
   rcases okRs_len rs _ _ c with h | h
   · subst h; right; simp; omega
   · right
     simp only [addL, List.length_append, List.length_singleton, List.length_cons] at h ⊢
     omega
theorem okRs_base : ∀ (rs : List Rv) (l : Lg) (t : ByteArray), okRs l t rs → rs = [] ∨ l.base + (l.revs.length : Int) + (rs.length : Int) ≤ 2147483647
 | [], _, _, _ => .inl rfl
 | r :: rs, l, t, h => by
   obtain ⟨a, b, c⟩ := h
   obtain ⟨_, _, _, d, _⟩ := next_len b
   rcases okRs_base rs _ _ c with h | h
   · subst h; right; simp; omega
   · right
     simp only [addL, List.length_append, List.length_singleton, List.length_cons] at h ⊢
     omega
theorem okRs_one : ∀ (rs : List Rv) (l : Lg) (t : ByteArray), okRs l t rs → ∀ r ∈ rs, oneE r = 0
 | [], _, _, _, r, hr => by simp at hr
 | q :: rs, l, t, h, r, hr => by
   rcases List.mem_cons.1 hr with rfl | hr
   · exact h.1
   · exact okRs_one rs _ _ h.2.2 r hr
theorem addLs_tbl : ∀ (rs : List Rv) (l : Lg), (addLs l rs).table = tblF (l.base + (l.revs.length : Int)) l.table rs
 | [], l => rfl
 | r :: rs, l => by
   simp only [addLs, tblF]
   rw [addLs_tbl rs]
   simp only [addL, List.length_append, List.length_singleton]
   have : l.base + ((l.revs.length + 1 : Nat) : Int) = l.base + (l.revs.length : Int) + 1 := by omega
   rw [this]
/-! a slot's frames -/
structure HdI (g b : Nat) (t : List (Nat × Nat)) (tx : ByteArray) : Prop where
 len : t.length = 8
 g : g ≤ 2147483647
 b : b ≤ 2147483647
 t : ∀ p ∈ t, p.1 ≤ 2147483647 ∧ p.2 ≤ 2147483647
 tx : tx.size ≤ 500
def SF (g b : Nat) (t : List (Nat × Nat)) (tx : ByteArray) (r1 : List Rv) (r2 : Option (List Rv)) : List Fm :=
 hf g b t tx :: (r1.map frR ++ match r2 with | none => [] | some l => doneF :: l.map frR)
variable {g b : Nat} {t : List (Nat × Nat)} {tx : ByteArray}
theorem SF_done (r1 : List Rv) : SF g b t tx r1 (some []) = SF g b t tx r1 none ++ [doneF] := by simp [SF]
theorem SF_snoc2 (r1 r2 : List Rv) (r : Rv) : SF g b t tx r1 (some (r2 ++ [r])) = SF g b t tx r1 (some r2) ++ [frR r] := by simp [SF]
theorem SF_take2 (r1 r2 : List Rv) (i : Nat) : (SF g b t tx r1 (some r2)).take (r1.length + i + 2) = SF g b t tx r1 (some (r2.take i)) := by
 unfold SF
 rw [show r1.length + i + 2 = (r1.length + i + 1) + 1 by omega, List.take_succ_cons, List.take_append, List.length_map, List.take_of_length_le (by simp; omega), show r1.length + i + 1 - r1.length = i + 1 by omega, List.take_succ_cons, ← List.map_take]
theorem frR_len {r : Rv} (h : oneE r = 0) : (frR r).2.size + 7 ≤ 4007 := by have := (frR_ok h).2.2; omega
theorem flat_revs : ∀ rs : List Rv, (∀ r ∈ rs, oneE r = 0) → (flat (rs.map frR)).length ≤ 4007 * rs.length
 | [], _ => Nat.le_refl _
 | r :: rs, h => by
   have h1 := frR_len (h r (by simp))
   have h2 := flat_revs rs fun q hq => h q (List.mem_cons_of_mem _ hq)
   simp only [List.map_cons, flat, List.length_append, txF_len, List.length_cons]
   omega
theorem SF_size (h : HdI g b t tx) (r1 : List Rv) (r2 : Option (List Rv)) (h1 : ∀ r ∈ r1, oneE r = 0) (h2 : ∀ l, r2 = some l → ∀ r ∈ l, oneE r = 0) : (flat (SF g b t tx r1 r2)).length ≤ 610 + 4007 * (r1.length + (match r2 with | none => 0 | some l => l.length)) := by
 have a := headB_len g b t tx h.len h.g h.b h.t
 have a2 : (hf g b t tx).2.size = (headB ((g, b) :: t) tx).length := List.size_toArray
 have a3 := h.tx
 have c := flat_revs r1 h1
 unfold SF
 simp only [flat, List.length_append, flat_app, txF_len]
 cases r2 with
 | none => simp only [flat, List.length_nil]; omega
 | some l =>
   have d := flat_revs l (h2 l rfl)
   simp only [flat, List.length_append, txF_len]
   have e : doneF.2.size = 0 := rfl
   omega
end Go.Proofs.Ytokngfinnieccaa
namespace Go.Proofs.Ytokngfinnieccaa
open Go.ChangeShapes Go.WideShapes Go.RowKit
set_option linter.unusedVariables false
set_option linter.unusedSimpArgs false
set_option maxRecDepth 100000
set_option maxHeartbeats 4000000
structure LogI (l : Lg) (tx : ByteArray) (g b : Nat) (tN : List (Nat × Nat)) : Prop where
 hd : HdI g b tN l.text
 eg : l.gen = (g : Int)
 eb : l.base = (b : Int)
 ef : l.first = tbN tN
 ok : okRs (L0 g b tN l.text) l.text l.revs
 tb : l.table = tblF b (tbN tN) l.revs
 wh : l.whole = true
 now : txt l.text l.revs l.revs.length = tx
theorem L0_len (g b : Nat) (t : List (Nat × Nat)) (tx : ByteArray) : (L0 g b t tx).revs.length = 0 := rfl
theorem LogI.len {l : Lg} {tx : ByteArray} {g b : Nat} {tN : List (Nat × Nat)} (h : LogI l tx g b tN) : l.revs.length ≤ 64 := by
 rcases okRs_len _ _ _ h.ok with e | e
 · rw [e]; exact Nat.zero_le _
 · rw [L0_len] at e; omega
theorem LogI.num {l : Lg} {tx : ByteArray} {g b : Nat} {tN : List (Nat × Nat)} (h : LogI l tx g b tN) : (b : Int) + (l.revs.length : Int) ≤ 2147483647 := by
 rcases okRs_base _ _ _ h.ok with e | e
 · rw [e]; have := h.hd.b; simp; omega
 · have : (L0 g b tN l.text).base = (b : Int) := rfl
   rw [this, L0_len] at e
   omega
theorem LogI.one {l : Lg} {tx : ByteArray} {g b : Nat} {tN : List (Nat × Nat)} (h : LogI l tx g b tN) : ∀ r ∈ l.revs, oneE r = 0 := okRs_one _ _ _ h.ok
theorem LogI.txe {l : Lg} {tx : ByteArray} {g b : Nat} {tN : List (Nat × Nat)} (h : LogI l tx g b tN) : txE l.text l.revs = 0 := txE_zero h.hd.tx h.len (okRs_txr _ _ _ h.ok)
theorem LogI.hg {l : Lg} {tx : ByteArray} {g b : Nat} {tN : List (Nat × Nat)} (h : LogI l tx g b tN) : Hg l tx := by
 have hl : (tbN tN).length = 8 := by simp [tbN, h.hd.len]
 refine ⟨⟨⟨by rw [h.ef]; exact hl, by rw [h.tb, tblF_len]; exact hl⟩, by rw [h.eb]; omega, by rw [h.eb]; have := h.hd.b; omega, h.len, ?_⟩, h.txe, h.now⟩
 rw [← h.now]
 exact txt_size _ _ _ h.hd.tx
theorem LogI.add {l : Lg} {tx : ByteArray} {g b : Nat} {tN : List (Nat × Nat)} (h : LogI l tx g b tN) {r : Rv} (hn : nextE l tx.size r = 0) : LogI (addL l r) (doS r.2.2 tx) g b tN := by
 have hone := (next_len hn).1
 obtain ⟨a1, a2, a3, a4, a5, a6, a7⟩ := addLs_same l.revs (L0 g b tN l.text)
 refine ⟨h.hd, h.eg, h.eb, h.ef, ?_, ?_, h.wh, ?_⟩
 · refine okRs_snoc _ _ _ r h.ok hone ?_
   show nextE (addLs (L0 g b tN l.text) l.revs) (txt l.text l.revs l.revs.length).size r = 0
   rw [h.now]
   refine nextE_mv ?_ ?_ ?_ hn
   · rw [addLs_tbl, h.tb, L0_len]
     show tblF ((b : Int) + ((0 : Nat) : Int)) (tbN tN) l.revs = _
     congr 1
   · rw [a2, a5, h.eb]
     simp [L0]
   · rw [a5]; simp [L0]
 · show l.table.set r.1.toNat (r.2.1, l.base + (l.revs.length + 1 : Nat)) = tblF b (tbN tN) (l.revs ++ [r])
   rw [tblF_snoc, h.tb, h.eb]
   congr 2
 · show txt l.text (l.revs ++ [r]) (l.revs ++ [r]).length = _
   rw [List.length_append, List.length_singleton, txt_snoc, h.now]
def natT (T : Tb) : List (Nat × Nat) := T.map fun p => (p.1.toNat, p.2.toNat)
theorem tbN_natT : ∀ T : Tb, (∀ p ∈ T, 0 ≤ p.1 ∧ 0 ≤ p.2) → tbN (natT T) = T
 | [], _ => rfl
 | p :: T, h => by
   have h1 := h p (by simp)
   have h2 := tbN_natT T fun q hq => h q (List.mem_cons_of_mem _ hq)
   unfold tbN natT at h2 ⊢
   simp only [List.map_cons, List.map_map] at h2 ⊢
   rw [h2]
   congr 1
   exact Prod.ext (Int.toNat_of_nonneg h1.1) (Int.toNat_of_nonneg h1.2)
theorem tblF_ok : ∀ (rs : List Rv) (n : Int) (T : Tb), (∀ p ∈ T, (0 ≤ p.1 ∧ p.1 ≤ 2147483647) ∧ 0 ≤ p.2 ∧ p.2 ≤ 2147483647) → (∀ r ∈ rs, oneE r = 0) → 0 ≤ n → n + (rs.length : Int) ≤ 2147483647 → ∀ p ∈ tblF n T rs, (0 ≤ p.1 ∧ p.1 ≤ 2147483647) ∧ 0 ≤ p.2 ∧ p.2 ≤ 2147483647
 | [], n, T, h, _, _, _ => h
 | r :: rs, n, T, h, h1, h2, h3 => by
   obtain ⟨_, _, o1, o2, _⟩ := one_parts (h1 r (by simp))
   have h3' : n + 1 + (rs.length : Int) ≤ 2147483647 := by simp only [List.length_cons] at h3; omega
   refine tblF_ok rs (n + 1) _ (fun p hp => ?_) (fun q hq => h1 q (List.mem_cons_of_mem _ hq)) (by omega) h3'
   rcases List.mem_or_eq_of_mem_set hp with hp | rfl
   · exact h p hp
   · exact ⟨⟨o1, o2⟩, by simp only; omega, by simp only; omega⟩
def tabK (l : Lg) (k : Nat) : List (Nat × Nat) := natT (tblF l.base l.first (l.revs.take k))
theorem tbN_ok (tN : List (Nat × Nat)) (h : ∀ p ∈ tN, p.1 ≤ 2147483647 ∧ p.2 ≤ 2147483647) : ∀ p ∈ tbN tN, (0 ≤ p.1 ∧ p.1 ≤ 2147483647) ∧ 0 ≤ p.2 ∧ p.2 ≤ 2147483647 := by
 intro p hp
 unfold tbN at hp
 obtain ⟨q, hq, rfl⟩ := List.mem_map.1 hp
 have := h q hq
 simp only
 omega
section
variable {l : Lg} {tx : ByteArray} {g b : Nat} {tN : List (Nat × Nat)}
theorem LogI.tab_ok (h : LogI l tx g b tN) (k : Nat) (hk : k ≤ l.revs.length) : ∀ p ∈ tblF l.base l.first (l.revs.take k), (0 ≤ p.1 ∧ p.1 ≤ 2147483647) ∧ 0 ≤ p.2 ∧ p.2 ≤ 2147483647 := by
 have := h.num
 refine tblF_ok _ _ _ (by rw [h.ef]; exact tbN_ok _ h.hd.t) (fun r hr => h.one r (List.mem_of_mem_take hr)) (by rw [h.eb]; omega) ?_
 rw [h.eb, List.length_take]
 omega
theorem LogI.tab (h : LogI l tx g b tN) (k : Nat) (hk : k ≤ l.revs.length) : tbN (tabK l k) = tblF l.base l.first (l.revs.take k) := tbN_natT _ fun p hp => by have := h.tab_ok k hk p hp; exact ⟨this.1.1, this.2.1⟩
theorem LogI.hdK (h : LogI l tx g b tN) (k : Nat) (hk : k ≤ l.revs.length) (hg : g + 1 ≤ 2147483647) : HdI (g + 1) (b + k) (tabK l k) (txt l.text l.revs k) := by
 have hn := h.num
 refine ⟨?_, hg, by omega, ?_, txt_size _ _ _ h.hd.tx⟩
 · have := congrArg List.length (h.tab k hk)
   rw [tblF_len, h.ef] at this
   simp only [tbN, List.length_map] at this
   rw [this]; exact h.hd.len
 · intro p hp
   unfold tabK natT at hp
   obtain ⟨q, hq, rfl⟩ := List.mem_map.1 hp
   have := h.tab_ok k hk q hq
   simp only
   omega
end
/-! the slots -/
def CurI (x : Slt) (l : Lg) (g b : Nat) (tN : List (Nat × Nat)) (safe : Int) : Prop :=
 ∃ (r1 r2 : List Rv) (j0 : Nat), l.revs = r1 ++ r2 ∧ x.1.data.toList = flat (SF g b tN l.text r1 (some r2)) ∧ j0 ≤ r2.length ∧ x.2 = ((flat (SF g b tN l.text r1 (some (r2.take j0)))).length : Nat) ∧ safe ≤ (b : Int) + (r1.length : Int) + (j0 : Int)
def OldI (x : Slt) (g : Nat) : Prop :=
 ∃ (g' b' : Nat) (t' : List (Nat × Nat)) (tx' : ByteArray) (r1 : List Rv) (r2 : Option (List Rv)), HdI g' b' t' tx' ∧ (∀ r ∈ r1, oneE r = 0) ∧ (∀ l, r2 = some l → ∀ r ∈ l, oneE r = 0) ∧ x.1.data.toList = flat (SF g' b' t' tx' r1 r2) ∧ (SF g' b' t' tx' r1 r2).length ≤ 66 ∧ g' < g ∧ 0 ≤ x.2 ∧ x.2 ≤ (x.1.size : Int) ∧ x.1.size ≤ 300000
def Emp (x : Slt) : Prop := x.1.size = 0 ∧ x.2 = 0
def OthI (x : Slt) (l : Lg) (safe : Int) (old : Bool) (m : Option Mv) (g b : Nat) : Prop :=
 match m with
 | none => (old = true ∧ OldI x g) ∨ (old = false ∧ Emp x)
 | some (fl, cp, wh) => old = false ∧ ∃ k : Nat, fl = (b : Int) + (k : Int) ∧ k ≤ l.revs.length ∧
    ((cp = -1 ∧ wh = false ∧ Emp x) ∨
     (∃ c : Nat, cp = (c : Int) ∧ wh = false ∧ k + c ≤ l.revs.length ∧ x.1.data.toList = flat (SF (g + 1) (b + k) (tabK l k) (txt l.text l.revs k) ((l.revs.drop k).take c) none) ∧ x.2 = 0) ∨
     (∃ (c : Nat) (r1 r2 : List Rv) (j0 : Nat), cp = (c : Int) ∧ c ≤ 64 ∧ wh = true ∧ l.revs.drop k = r1 ++ r2 ∧ x.1.data.toList = flat (SF (g + 1) (b + k) (tabK l k) (txt l.text l.revs k) r1 (some r2)) ∧ j0 ≤ r2.length ∧
        ((x.2 = 0 ∧ j0 = 0) ∨ x.2 = ((flat (SF (g + 1) (b + k) (tabK l k) (txt l.text l.revs k) r1 (some (r2.take j0)))).length : Nat)) ∧ safe ≤ (b : Int) + (k : Int) + (r1.length : Int) + (j0 : Int)))
structure ShI (s : Sh) (m : Option Mv) (g b : Nat) (tN : List (Nat × Nat)) : Prop where
 log : LogI s.log s.text g b tN
 at1 : s.at_ ≤ 1
 g1 : g + 1 ≤ 2147483647
 cur : CurI (slotOf s s.at_) s.log g b tN s.safe
 oth : OthI (slotOf s (1 - s.at_)) s.log s.safe s.old m g b
 sf : s.safe ≤ s.log.base + (s.log.revs.length : Int)
def SzI (x : Slt) : Prop := x.1.size ≤ 300000 ∧ 0 ≤ x.2 ∧ x.2 ≤ (x.1.size : Int)
theorem bs_sz {x : ByteArray} {fs : List UInt8} (h : x.data.toList = fs) : x.size = fs.length := by rw [← h]; rfl
theorem flat_pre (fs : List Fm) (j : Nat) : (flat (fs.take j)).length ≤ (flat fs).length := by
 conv => rhs; rw [← List.take_append_drop j fs, flat_app, List.length_append]
 omega
theorem SF_pre (g b : Nat) (t : List (Nat × Nat)) (tx : ByteArray) (r1 r2 : List Rv) (j : Nat) : (flat (SF g b t tx r1 (some (r2.take j)))).length ≤ (flat (SF g b t tx r1 (some r2))).length := by
 rw [← SF_take2 r1 r2 j]; exact flat_pre _ _
section
variable {s : Sh} {m : Option Mv} {g b : Nat} {tN : List (Nat × Nat)}
theorem ShI.szc (h : ShI s m g b tN) : SzI (slotOf s s.at_) := by
 obtain ⟨r1, r2, j0, e1, e2, e3, e4, e5⟩ := h.cur
 have hl := h.log.len
 have h1 : ∀ r ∈ r1, oneE r = 0 := fun r hr => h.log.one r (by rw [e1]; exact List.mem_append_left _ hr)
 have h2 : ∀ l, some r2 = some l → ∀ r ∈ l, oneE r = 0 := fun l e r hr => by injection e with e; subst e; exact h.log.one r (by rw [e1]; exact List.mem_append_right _ hr)
 have hs := SF_size h.log.hd r1 (some r2) h1 h2
 have hz := bs_sz e2
 have hp := SF_pre g b tN s.log.text r1 r2 j0
 rw [e1, List.length_append] at hl
 simp only at hs
 refine ⟨by omega, by omega, by omega⟩
theorem ShI.szo (h : ShI s m g b tN) : SzI (slotOf s (1 - s.at_)) := by
 have ho := h.oth
 have hl := h.log.len
 unfold OthI at ho
 cases m with
 | none =>
   rcases ho with ⟨_, g', b', t', tx', r1, r2, a1, a2, a3, a4, a5, a6, a7, a8, a9⟩ | ⟨_, a1, a2⟩
   · exact ⟨a9, a7, a8⟩
   · exact ⟨by omega, by omega, by omega⟩
 | some v =>
   obtain ⟨fl, cp, wh⟩ := v
   obtain ⟨_, k, _, hk, hx⟩ := ho
   have hd := h.log.hdK k hk h.g1
   have hone : ∀ r ∈ s.log.revs.drop k, oneE r = 0 := fun r hr => h.log.one r (List.mem_of_mem_drop hr)
   rcases hx with ⟨_, _, a1, a2⟩ | ⟨c, _, _, _, a1, a2⟩ | ⟨c, r1, r2, j0, _, _, _, e1, e2, e3, e4, e5⟩
   · exact ⟨by omega, by omega, by omega⟩
   · have hs := SF_size hd ((s.log.revs.drop k).take c) none (fun r hr => hone r (List.mem_of_mem_take hr)) (fun l e => by simp at e)
     have hz := bs_sz a1
     rw [List.length_take, List.length_drop] at hs
     simp only at hs
     exact ⟨by omega, by omega, by omega⟩
   · have h1 : ∀ r ∈ r1, oneE r = 0 := fun r hr => hone r (by rw [e1]; exact List.mem_append_left _ hr)
     have h2 : ∀ l, some r2 = some l → ∀ r ∈ l, oneE r = 0 := fun l e r hr => by injection e with e; subst e; exact hone r (by rw [e1]; exact List.mem_append_right _ hr)
     have hs := SF_size hd r1 (some r2) h1 h2
     have hz := bs_sz e2
     have hp := SF_pre (g + 1) (b + k) (tabK s.log k) (txt s.log.text s.log.revs k) r1 r2 j0
     have hll := congrArg List.length e1
     rw [List.length_append, List.length_drop] at hll
     simp only at hs
     rcases e4 with ⟨e4, _⟩ | e4
     · exact ⟨by omega, by omega, by omega⟩
     · exact ⟨by omega, by omega, by omega⟩
theorem look_of {s : Sh} (h0 : SzI (slotOf s 0)) (h1 : SzI (slotOf s 1)) (i : Nat) (hi : i ≤ 1) : dlook s.d0 s.d1 (i : Int) = 0 := by
 have e0 : sbad s.d0 = 0 := sbad_ok (by have := h0.1; show (slotOf s 0).1.size ≤ _; omega) h0.2.1 h0.2.2
 have e1 : sbad s.d1 = 0 := sbad_ok (by have := h1.1; show (slotOf s 1).1.size ≤ _; omega) h1.2.1 h1.2.2
 unfold dlook dchk
 rw [e0, e1]
 rw [if_neg (by simp), if_neg (by omega)]
theorem ShI.sz (h : ShI s m g b tN) (i : Nat) (hi : i ≤ 1) : SzI (slotOf s i) := by
 have h1 := h.at1
 by_cases e : i = s.at_
 · subst e; exact h.szc
 · obtain rfl : i = 1 - s.at_ := by omega
   exact h.szo
theorem ShI.look (h : ShI s m g b tN) (i : Nat) (hi : i ≤ 1) : dlook s.d0 s.d1 (i : Int) = 0 := look_of (h.sz 0 (by omega)) (h.sz 1 (by omega)) i hi
end
/-! what is done to a slot -/
theorem slot_put (s : Sh) (i j : Nat) (t : ByteArray) (hi : i ≤ 1) (hj : j ≤ 1) (hs : (slotOf s i).1.size + t.size ≤ 1048576) : slotOf (putS s i t) j = if j = i then ((slotOf s i).1 ++ t, (slotOf s i).2) else slotOf s j := by
 obtain rfl | rfl : i = 0 ∨ i = 1 := by omega
 · have hs : s.d0.1.size + t.size ≤ 1048576 := hs
   have e : dapp s.d0 s.d1 ((0 : Nat) : Int) t = ((s.d0.1 ++ t, s.d0.2), s.d1, 0) := by unfold dapp; rw [if_pos (show ((0 : Nat) : Int) = 0 from rfl), if_neg (by omega)]
   unfold putS slotOf
   rw [e]
   (rcases (show j = 0 ∨ j = 1 by omega) with rfl | rfl) <;> rfl
 · have hs : s.d1.1.size + t.size ≤ 1048576 := hs
   have e : dapp s.d0 s.d1 ((1 : Nat) : Int) t = (s.d0, (s.d1.1 ++ t, s.d1.2), 0) := by unfold dapp; rw [if_neg (by decide), if_neg (by omega)]
   unfold putS slotOf
   rw [e]
   (rcases (show j = 0 ∨ j = 1 by omega) with rfl | rfl) <;> rfl
theorem frB_flat (r : Rv) : (frB r).data.toList = flat [frR r] := by rw [frB_tx]; simp [flat]
theorem hdB_flat (g b : Nat) (t : List (Nat × Nat)) (tx : ByteArray) : (hdB g b t tx).data.toList = flat (SF g b t tx [] none) := by rw [hdB_tx]; simp [SF, flat]
theorem doneT_flat : doneT.data.toList = flat [doneF] := by rw [doneT_tx]; simp [flat, doneF]
end Go.Proofs.Ytokngfinnieccaa
