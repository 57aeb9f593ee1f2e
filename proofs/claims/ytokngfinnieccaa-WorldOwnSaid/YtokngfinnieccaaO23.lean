/- Contract of world.say. Contracts of the helpers of the laws on meet: puts, cuts. Contract of world.puts. Contract of world.Edit. -/
import Derived.Test.YtokngfinnieccaaO22
import Derived.Test.YtokngfinnieccaaO8
import Derived.Test.YtokngfinnieccaaO4
import Derived.Test.YtokngfinnieccaaO18
import Derived.Test.YtokngfinnieccaaO21
namespace Go.Proofs.Ytokngfinnieccaa
open Go.ChangeShapes Go.WideShapes Go.RowKit
set_option linter.unusedVariables false
set_option linter.unusedSimpArgs false
set_option maxRecDepth 100000
set_option maxHeartbeats 4000000
theorem info_msg : (Try.prog.info? 82).map (fun i => (i.zero, i.size, i.bytes)) = some (some (.agg #[.int .i64 0, .int .i64 0, .int .i64 0, .slice none 0 0]), 4, 48) := by kernel_rfl
theorem run_app_up (w : World) (u1 : Option Addr) (u3 : Nat) (hm : u3 ≤ maxLen) (hrow : 0 < u3 → ∃ g o cur, u1 = some ⟨g, o, none⟩ ∧ Blk w g 82 cur ∧ o + u3 * 4 ≤ cur.size)
 (ad : Addr) (c : Nat) (m0 m1 m2 m3 : Value) (hnews : ∀ j v, [m0, m1, m2, m3][j]? = some v → w.cell? (ad.add j) = some v) (h1 : ∀ v ∈ [m0, m1, m2, m3], v.oneCell' = true) (ty : TypeId) :
 ∃ g o u3' cur w', (Builtin.append_ #[116, 116] ty #[.slice u1 0 u3, .slice (some ad) 1 c]).run Try.prog w = .ok (.slice (some ⟨g, o, none⟩) 1 u3') w' ∧ 1 ≤ u3' ∧ u3' ≤ maxLen ∧ Blk w' g 82 cur ∧ o + u3' * 4 ≤ cur.size ∧
   (∀ j v, [m0, m1, m2, m3][j]? = some v → cur[o + j]? = some v) ∧ Only w w' (fun k => 0 < u3 ∧ ∃ a, u1 = some a ∧ a.block = k) ∧ ((0 < u3 ∧ ∃ a, u1 = some a ∧ a.block = g) ∨ w.heap.size ≤ g) := by
 obtain ⟨i0, hi, hz0, hz1, hz2⟩ := info_parts info_msg
 have hlen : [m0, m1, m2, m3].length = 1 * i0.size := by rw [hz1]; rfl
 by_cases hp : 0 < u3
 · obtain ⟨g, o, cur, rfl, hb, hs⟩ := hrow hp
   have hf := run_firstCells_some (P := Try.prog) w i0.size 1 ad 1 c [m0, m1, m2, m3] hlen hnews
   have hst := run_storeCells_at Try.prog g o 82 [m0, m1, m2, m3] 0 cur w hb (by simp only [List.length_cons, List.length_nil]; omega) h1
   have hr : (Builtin.append_ #[116, 116] ty #[.slice (some ⟨g, o, none⟩) 0 u3, .slice (some ad) 1 c]).run Try.prog w = .ok (.slice (some ⟨g, o, none⟩) 1 u3) (w.setRow g (cur.toList.take (o + 0) ++ [m0, m1, m2, m3] ++ cur.toList.drop (o + 0 + 4)).toArray) := by
    simp only [List.length_cons, List.length_nil] at hst
    simp [Builtin.append_, run_underlying Try.underlying116, sizeOf, typeInfo, hi, Builtin.lenOf, show 1 ≤ u3 from hp, hf, Addr.add, hst]
   refine ⟨g, o, u3, _, _, hr, hp, hm, hb.row _, ?_, ?_, ?_, .inl ⟨hp, _, rfl, rfl⟩⟩
   · simp only [List.size_toArray, List.length_append, List.length_take, List.length_drop, Array.length_toList, List.length_cons, List.length_nil]
     omega
   · intro j v hj
     have hj4 : j < 4 := (List.getElem?_eq_some_iff.1 hj).1
     have hsz : (cur.toList.take (o + 0)).length = o := by rw [List.length_take, Array.length_toList]; omega
     rw [List.getElem?_toArray, List.append_assoc, List.getElem?_append_right (by omega), hsz, Nat.add_sub_cancel_left, List.getElem?_append_left (by simp; omega)]
     exact hj
   · exact (Only.setRow w g _).mono fun k _ e => ⟨hp, _, rfl, e.symm⟩
 · obtain rfl : u3 = 0 := by omega
   have hgr : ∀ (cells : Array Value), Only w (w.drew.alloc (.cells cells 82)) (fun k => 0 < 0 ∧ ∃ a, u1 = some a ∧ a.block = k) := fun cells => Only.of_below ((Below.drew (Below.refl w.heap.size w)).alloc (Nat.le_refl _) _)
   have hs1 : ∀ K, 1 ≤ K → 0 + K * 4 ≤ (#[m0, m1, m2, m3] ++ Builtin.zeroCells (Value.agg #[.int .i64 0, .int .i64 0, .int .i64 0, .slice none 0 0]).cells (K - 1)).size := by
    intro K hK
    rw [Array.size_append, size_zeroCells]
    show 0 + K * 4 ≤ 4 + (K - 1) * 4
    omega
   have hs2 : ∀ K j v, [m0, m1, m2, m3][j]? = some v → (#[m0, m1, m2, m3] ++ Builtin.zeroCells (Value.agg #[.int .i64 0, .int .i64 0, .int .i64 0, .slice none 0 0]).cells (K - 1))[0 + j]? = some v := by
    intro K j v hj
    have hj4 : j < 4 := (List.getElem?_eq_some_iff.1 hj).1
    rw [Nat.zero_add, Array.getElem?_append_left (by show j < 4; exact hj4)]
    simpa using hj
   have hgc : grownCap w 1 0 82 ≤ maxLen := grownCap_le_maxLen w 1 0 _ (by simp [maxLen])
   cases u1 with
   | none =>
     have hr := run_append_nil (P := Try.prog) w 116 ty 82 i0 _ Try.underlying116 hi hz0 ad 1 c [m0, m1, m2, m3] hlen hnews (by omega) (by omega) (by rw [hz2]; omega)
     exact ⟨w.heap.size, 0, _, _, _, hr, grownCap_ge w 1 0 _, hgc, heap_alloc_new w.drew _, hs1 _ (grownCap_ge w 1 0 _), hs2 _, hgr _, .inr (Nat.le_refl _)⟩
   | some b =>
     have hr := run_append_grow (P := Try.prog) w 116 ty 82 i0 _ Try.underlying116 hi hz0 b 0 0 [] (by simp) (by simp) ad 1 c [m0, m1, m2, m3] hlen hnews (by omega) (by omega) (growslice_fits (by omega) (by rw [hz2]; omega))
     simp only [Nat.zero_add, Array.empty_append] at hr
     exact ⟨w.heap.size, 0, _, _, _, hr, grownCap_ge w 1 0 _, hgc, heap_alloc_new w.drew _, hs1 _ (grownCap_ge w 1 0 _), hs2 _, hgr _, .inr (Nat.le_refl _)⟩
theorem step_app_up_drew {ops : Array Oper} {o : Oper} {a : Act} {K : Act → World → Prop} {Q : Exit → Act → World → Prop} {Z : Prop} (w : World) (hgd : o.guard = none) (s x : Operand)
 (ho : o.op = .call { callee := .builtin .append, args := #[s, x], argTypes := #[116, 116] })
 (u1 : Option Addr) (u3 : Nat) (hs : a.eval s = .slice u1 0 u3) (hm : u3 ≤ maxLen) (hrow : 0 < u3 → ∃ g o cur, u1 = some ⟨g, o, none⟩ ∧ Blk w g 82 cur ∧ o + u3 * 4 ≤ cur.size)
 (m0 m1 m2 m3 : Value) (h1 : ∀ v ∈ [m0, m1, m2, m3], v.oneCell' = true) (c : Nat) (hx : a.eval x = .slice (some ⟨w.heap.size, 0, none⟩) 1 c)
 (h : ∀ g o' u3' cur w', 1 ≤ u3' → u3' ≤ maxLen → Blk w' g 82 cur → o' + u3' * 4 ≤ cur.size → (∀ j v, [m0, m1, m2, m3][j]? = some v → cur[o' + j]? = some v) → Only w w' (fun k => 0 < u3 ∧ ∃ a, u1 = some a ∧ a.block = k) → ((0 < u3 ∧ ∃ a, u1 = some a ∧ a.block = g) ∨ w.heap.size ≤ g) → K (a.put o.dst (.slice (some ⟨g, o', none⟩) 1 u3')) w') :
 if Region.wanted o (yielded ops a.tmps) = true then Oper.wp Try.prog o a ((w.alloc (.cells #[m0, m1, m2, m3] 82)).drew) K Q else Z := by
 have hw : Region.wanted o (yielded ops a.tmps) = true := by simp [Region.wanted, hgd]
 rw [if_pos hw]
 obtain ⟨g, o', u3', cur, w', hr, k1, k2, k3, k4, k5, k6, k7⟩ := run_app_up ((w.alloc (.cells #[m0, m1, m2, m3] 82)).drew) u1 u3 hm (fun hp => by
  obtain ⟨g, o, cur, e1, e2, e3⟩ := hrow hp
  exact ⟨g, o, cur, e1, (e2.alloc _).drew, e3⟩) ⟨w.heap.size, 0, none⟩ c m0 m1 m2 m3 (fun j v hj => by
  have e1 : (w.alloc (.cells #[m0, m1, m2, m3] 82)).heap[w.heap.size]? = some (.cells #[m0, m1, m2, m3] 82) := heap_alloc_new w _
  rw [add0]
  show (w.alloc (.cells #[m0, m1, m2, m3] 82)).cell? _ = _
  rw [cell_of_row _ _ j _ _ _ e1]
  simpa using hj) h1 o.type
 unfold Oper.wp execOp
 simp only [ho, resolve, invoke, builtin, Sem.run_bind, Sem.run_pure, Result.andThen_ok, List.map_toArray, List.map_cons, List.map_nil, hs, hx, hr]
 have hsz : w.heap.size ≤ ((w.alloc (.cells #[m0, m1, m2, m3] 82)).drew).heap.size := by show w.heap.size ≤ (w.alloc _).heap.size; simp
 exact h g o' u3' cur w' k1 k2 k3 k4 k5 ((Only.alloc w _).trans ((Only.drew _).trans k6)) (k7.imp id fun hg => Nat.le_trans hsz hg)
theorem upB_of {u : Sl} {k : Nat} (h : 0 < u.2.2 ∧ ∃ a, u.1 = some a ∧ a.block = k) : upB u = some k := by
 obtain ⟨h1, a, h2, h3⟩ := h
 unfold upB
 rw [if_neg (by omega), h2, ← h3]
 rfl
theorem WdM.say {V v1 : World} {F : Nat → Prop} {q sq gs cap : Nat} {E : List (Sl × Sl × Sl)} {sp : List Value} {s : Sh} {X : List St} {put edits : Int} (hM : WdM V F q sq gs cap E sp s X put edits) {i : Nat} {x : St} {a : Sl × Sl × Sl} (hx : X[i]? = some x) (ha : E[i]? = some a) (hup : x.up = []) {d : Sl} (hd : DtW V F d x.c.sent)
 {g o' u3' : Nat} {cur : Array Value} (k1 : 1 ≤ u3') (k2 : u3' ≤ maxLen) (k3 : Blk v1 g 82 cur) (k4 : o' + u3' * 4 ≤ cur.size) (k5 : ∀ j v, [Value.int .i64 x.c.rev, .int .i64 x.c.who, .int .i64 x.c.seq, .slice d.1 d.2.1 d.2.2][j]? = some v → cur[o' + j]? = some v)
 (k6 : Only V v1 (fun k => 0 < a.2.2.2.2 ∧ ∃ ad, a.2.2.1 = some ad ∧ ad.block = k)) (k7 : (0 < a.2.2.2.2 ∧ ∃ ad, a.2.2.1 = some ad ∧ ad.block = g) ∨ V.heap.size ≤ g) :
 WdM (v1.setCell ⟨gs, i * 10 + 8, none⟩ (.slice (some ⟨g, o', none⟩) 1 u3')) F q sq gs cap (E.set i (a.1, a.2.1, (some ⟨g, o', none⟩, 1, u3'))) sp s (X.set i (sayS x)) put edits ∧
  (∀ z, upB (some ⟨g, o', none⟩, 1, u3') = some z → upB a.2.2 = some z ∨ V.heap.size ≤ z) ∧ Only V (v1.setCell ⟨gs, i * 10 + 8, none⟩ (.slice (some ⟨g, o', none⟩) 1 u3')) (fun k => k = gs ∨ upB a.2.2 = some k) := by
 have hss := hM.ss i x a hx ha
 have k6' : Only V v1 (fun k => k = gs ∨ upB a.2.2 = some k) := k6.mono fun k _ hk => .inr (upB_of hk)
 have o2 : Only v1 (v1.setCell ⟨gs, i * 10 + 8, none⟩ (.slice (some ⟨g, o', none⟩) 1 u3')) (fun k => k = gs ∨ upB a.2.2 = some k) := (Only.setSelf v1 gs _ _).mono fun k _ hk => .inl hk
 have oo := k6'.trans o2
 have hgF : ¬ F g := by
  rcases k7 with hk | hk
  · exact (upB_blk hss.u (upB_of hk)).1
  · intro hf; have := hM.flt g hf; omega
 have hne : ∀ k, upB a.2.2 = some k → k ≠ gs := fun k hk e => by
  obtain ⟨_, c, hc⟩ := upB_blk hss.u hk
  exact Blk.ne_ hc hM.kg (by decide) e
 have kg1 := hM.kg.only k6 (fun hk => hne gs (upB_of hk) rfl)
 have hggs : g ≠ gs := Blk.ne_ k3 kg1 (by decide)
 have hS : ∀ k, (k = gs ∨ upB a.2.2 = some k) → F k ∨ ∃ cs t, Blk V k t cs ∧ t ≠ 88 := by
  rintro k (hk | hk)
  · exact .inr ⟨_, _, hk ▸ hM.kg, by decide⟩
  · obtain ⟨_, c, hc⟩ := upB_blk hss.u hk
    exact .inr ⟨_, _, hc, by decide⟩
 have hub : upB (some ⟨g, o', none⟩, 1, u3') = some g := by
  unfold upB
  rw [if_neg (by simp only; omega)]
  rfl
 refine ⟨hM.seat hx ha oo ?_ ⟨hss.s.only oo hS, hss.h.only oo hS, ?_⟩ ?_, ?_, oo⟩
 · have := kg1.set_ (i * 10 + 8) (.slice (some ⟨g, o', none⟩) 1 u3')
   rw [rowW_cell (x' := sayS x) (a' := (a.1, a.2.1, (some ⟨g, o', none⟩, 1, u3'))) hx ha hM.le 8 _ (by decide) rfl] at this
   exact this
 · refine ⟨k2, .inr ⟨(x.c.rev, x.c.who, x.c.seq, x.c.sent), d, g, o', cur, ?_, rfl, rfl, k1, hgF, k3.far (p := ⟨gs, i * 10 + 8, none⟩) hggs _, k4, k5 0 _ rfl, k5 1 _ rfl, k5 2 _ rfl, k5 3 _ rfl, hd.only oo hS⟩⟩
   show x.up ++ _ = _
   rw [hup]
   rfl
 · intro z hz
   rw [hub] at hz
   injection hz with hz
   subst hz
   rcases k7 with hk | hk
   · exact .inl (upB_of hk)
   · exact .inr hk
 · intro z hz
   rw [hub] at hz
   injection hz with hz
   subst hz
   rcases k7 with hk | hk
   · exact .inl (upB_of hk)
   · exact .inr hk
theorem client_rng {w : World} {gs o : Nat} {x : St} {a : Sl × Sl × Sl} (h : ∀ j, j < 10 → w.cell? ⟨gs, o + j, none⟩ = (stc x a)[j]?) : w.rangeAt gs o [.int .i64 x.c.who, .int .i64 x.c.rev, .int .i64 x.c.seq, .string x.c.text, .bool x.c.fly, .slice a.1.1 a.1.2.1 a.1.2.2, .bool x.c.wait, .slice a.2.1.1 a.2.1.2.1 a.2.1.2.2] := by
 intro j v hj
 have hj8 : j < 8 := (List.getElem?_eq_some_iff.1 hj).1
 rw [h j (by omega)]
 rw [show stc x a = [.int .i64 x.c.who, .int .i64 x.c.rev, .int .i64 x.c.seq, .string x.c.text, .bool x.c.fly, .slice a.1.1 a.1.2.1 a.1.2.2, .bool x.c.wait, .slice a.2.1.1 a.2.1.2.1 a.2.1.2.2] ++ [.slice a.2.2.1 a.2.2.2.1 a.2.2.2.2, .int .i64 x.told] from rfl, List.getElem?_append_left hj8]
 exact hj
theorem own_n {w : World} {B : Nat} {A : Option Addr} {n c : Nat} {l : List Pt} (h : OwnP w B (.slice A n c) l) : n = l.length := by
 obtain ⟨A', c', e⟩ := h.form
 injection e
theorem szP_snoc (l : List Pt) (p : Pt) : szP (l ++ [p]) = szP l + (p.2.2.size : Int) := by
 induction l with
 | nil => simp [szP]
 | cons q l ih => simp only [List.cons_append, szP, ih]; omega
theorem szP_le : ∀ (l : List Pt) (k : Nat), szP (l.take k) ≤ szP l
 | [], k => by simp [szP]
 | p :: l, 0 => by
   have : ∀ l : List Pt, 0 ≤ szP l := by
    intro l
    induction l with
    | nil => exact Int.le_refl _
    | cons p l ih => simp only [szP]; omega
   have := this (p :: l)
   simpa [szP] using this
 | p :: l, k + 1 => by
   have := szP_le l k
   simp only [List.take_succ_cons, szP]
   omega
theorem wputs_any (d : List Pt) (A : Option Addr) (n c B : Nat) (w : World) (h : RdP w B A n c d) (hB : B ≤ w.heap.size) (hk : chk d = 0) :
 Calls Try.prog 71 #[.slice A n c] w fun e w' => e = .returned (.int .i64 (nP (units d) : Nat)) ∧ Below w.heap.size w w' := by
 have hsz := nP_units d (chk_parts hk).2.2.1
 have hle : nP (units d) ≤ 500 := by have := nP_le (units d); have := (chk_parts hk).2.2.2.2.1; omega
 have Hd := Lib.hid (h.more hB)
 have hnd : n = d.length := h.1
 have HSZ := Lib.hid hsz
 have HLE := Lib.hid hle
 have HND := Lib.hid hnd
 have hn1 : n ≤ 1600 := by have := (chk_parts hk).1; omega
 have hn0 : (0 : Int) ≤ (n : Int) := by omega
 have HB0 : Hid (Below w.heap.size w w) := Lib.hid (Below.refl _ _)
 clear h hB hk hsz hle hnd
 go_enter Try.func71, Try.ntmps71
 go_upto_region 3 with (fail)
 go_loopw [3, 5, 8] (fun nv x5 iv wr => ∃ (j : Nat) (S : Int), j ≤ n ∧ iv = .int .i64 j ∧ nv = .int .i64 S ∧ Hid (S = szP (d.take j)) ∧ Hid (Below w.heap.size w wr)) (fun _ _ iv _ => n - (intOf iv).toNat)
 case atStart => exact ⟨0, 0, by omega, rfl, rfl, Lib.hid (by simp [szP]), HB0⟩
 case round =>
  clear HB0
  obtain ⟨j, S, hj, rfl, rfl, HS, HB⟩ := hrel
  by_cases hlt : j < n
  · obtain ⟨b, o, rfl, hbl, d0, d1, d2⟩ := (Hd.out.step HB.out).at_ j hlt
    have hjl : j < d.length := by have := HND.out; omega
    have htk : d.take (j + 1) = d.take j ++ [d[j]] := List.take_succ_eq_append_getElem hjl
    have hst : szP (d.take (j + 1)) = S + ((d[j]).2.2.size : Int) := by rw [htk, szP_snoc, ← HS.out]
    have hs1 := szP_le d (j + 1)
    have hs0 : 0 ≤ S := by
     rw [HS.out]
     have : ∀ l : List Pt, 0 ≤ szP l := by
      intro l
      induction l with
      | nil => exact Int.le_refl _
      | cons p l ih => simp only [szP]; omega
     exact this _
    have hmx : S + ((d[j]).2.2.size : Int) ≤ 500 := by rw [← hst]; have := HSZ.out; have := HLE.out; omega
    obtain ⟨f, hf⟩ : ∃ f, d[j] = f := ⟨_, rfl⟩
    rw [hf] at d0 d1 d2 hst hmx
    obtain ⟨ra, rb, t⟩ := f
    simp only at d0 d1 d2 hst hmx
    have HST := Lib.hid hst
    have hj0 : (0 : Int) ≤ (j : Int) := by omega
    have hjn : (j : Int) < (n : Int) := by omega
    have hbw : b < wr.heap.size := hbl
    have kz := Blk.new wr 88 #[.int .i64 ra, .int .i64 rb, .string t]
    have hal := (Below.refl wr.heap.size wr).alloc (Nat.le_refl _) (.cells #[.int .i64 ra, .int .i64 rb, .string t] 88)
    have HB1 := Lib.hid (HB.out.trans (hal.mono HB.out.size))
    have z2 := kz.cell 2
    have lz := kz.lt
    have hwr : IntKind.i64.wrap (S + (t.size : Int)) = S + (t.size : Int) := IntWalk.i64_in _ (by omega)
    clear htk hst hf kz hal hs1 hbl HB HS
    go_wp2_with fail
    go_roundw
    case rel => exact ⟨j + 1, S + (t.size : Int), by omega, by go_num, by first | rfl | go_num, Lib.hid HST.out.symm, HB1⟩
    case measure => simp [intOf]; omega
  · obtain rfl : j = n := by omega
    have hS : S = (nP (units d) : Nat) := by rw [HS.out, List.take_of_length_le (by have := HND.out; omega)]; exact HSZ.out.symm
    have HS2 := Lib.hid hS
    clear hS HS
    go_wp2_with fail
    go_ret
    have hS9 := HS2.out
    subst hS9
    exact ⟨rfl, HB.out⟩
theorem grow_grow {P : Nat → Prop} {w w1 w2 : World} {k : Nat} (h1 : w.heap.size ≤ w1.heap.size) (h2 : w1.heap.size ≤ w2.heap.size) (h : grow (grow P w w1) w1 w2 k) : grow P w w2 k := by
 rcases h with (h | h) | h
 · exact .inl h
 · exact .inr ⟨h.1, by omega⟩
 · exact .inr ⟨by omega, h.2⟩
theorem Only.trans_grow {P : Nat → Prop} {w w1 w2 : World} (h1 : Only w w1 P) (h2 : Only w1 w2 (grow P w w1)) : Only w w2 P :=
 ⟨h2.1.trans h1.1, h2.2.1.trans h1.2.1, h2.2.2.1.trans h1.2.2.1, Nat.le_trans h1.2.2.2.1 h2.2.2.2.1, fun k hk hp => (h2.2.2.2.2 k (Nat.lt_of_lt_of_le hk h1.2.2.2.1) (by
   rintro (hg | hg)
   · exact hp hg
   · omega)).trans (h1.2.2.2.2 k hk hp)⟩
end Go.Proofs.Ytokngfinnieccaa
