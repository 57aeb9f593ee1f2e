/- Words for memory and the closing of a law: no function of the program is met here. A slice value that reads as a list of cells. Deltas byte by byte: plain lists, no program. A unit is a byte kept (none), cut (some none) or put (some (some b)). -/
import Derived.Test.YtokngfinnieccaaRows
import Derived.WalkKit
import Derived.ProofKit
import Derived.OpenShut
import Derived.Lib.Hide
import Derived.Below
import Derived.Laws.OwnMore
import Derived.Laws.Rows
import Derived.Deep.AppendLies
import Derived.Deep.Draws
import Derived.Maps.AppendAt
import Derived.RegionTactic
import Derived.OwnWalk
import Derived.WalkLawsBesides
import Derived.WalkSpells
import Derived.BigQuiet
import Derived.Deep.QuietTactic
import Derived.StillTailTactics
import Derived.Deep.RegionHeld3
import Derived.Lib.Strings
import Derived.SizedLaws
import Derived.Deep.CondSized
namespace Go.Proofs.Ytokngfinnieccaa
open Go.ChangeShapes Go.WideShapes Go.RowKit
set_option linter.unusedVariables false
set_option linter.unusedSimpArgs false
set_option maxRecDepth 100000
set_option maxHeartbeats 4000000
theorem Try.own : ownKnob Try.prog.godebug = none := by kernel_rfl
theorem Try.laidOut : laidOutB Try.prog = true := by kernel_rfl
def Reads (w : World) (B size : Nat) (A : Option Addr) (n : Nat) (xs : List Value) : Prop :=
 xs.length = n * size ∧ (0 < n → ∃ ad, A = some ad ∧ ad.block < B ∧ ∀ j u, xs[j]? = some u → w.cell? (ad.add j) = some u)
section
variable {w w' : World} {B B' size n : Nat} {A : Option Addr} {xs : List Value}
end
def Blk (w : World) (g : Nat) (t : TypeId) (cs : Array Value) : Prop := w.heap[g]? = some (.cells cs t (0, 0))
section
variable {w w' : World} {g : Nat} {t : TypeId} {cs : Array Value}
theorem Blk.lt (h : Blk w g t cs) : g < w.heap.size := by
 rcases Nat.lt_or_ge g w.heap.size with hlt | hge
 · exact hlt
 · unfold Blk at h; rw [Array.getElem?_eq_none hge] at h; cases h
theorem Blk.cell (h : Blk w g t cs) (i : Nat) : w.cell? ⟨g, i, none⟩ = cs[i]? := cell_of_row w g i cs t (0, 0) h
theorem Blk.frozen (h : Blk w g t cs) (i : Nat) : w.frozen? ⟨g, i, none⟩ = false := by
 unfold Blk at h
 simp [World.frozen?, h]
theorem Blk.new (w : World) (t : TypeId) (cs : Array Value) : Blk (w.alloc (.cells cs t)) w.heap.size t cs := heap_alloc_new w _
theorem Blk.drew (h : Blk w g t cs) : Blk w.drew g t cs := h
theorem Blk.drewN (h : Blk w g t cs) (n : Nat) : Blk (w.drewN n) g t cs := h
theorem Blk.alloc (h : Blk w g t cs) (o : Obj) : Blk (w.alloc o) g t cs := (Below.heap_alloc w o g h.lt).trans h
theorem Blk.set_ (h : Blk w g t cs) (i : Nat) (u : Value) : Blk (w.setCell ⟨g, i, none⟩ u) g t (cs.setIfInBounds i u) := by
 unfold Blk at h ⊢
 simp [World.setCell, Array.getElem?_modify, h]
theorem Blk.far (h : Blk w g t cs) {p : Addr} (hp : g ≠ p.block) (u : Value) : Blk (w.setCell p u) g t cs := (Below.heap_setCell w p u g hp).trans h
theorem Blk.below {B : Nat} (h : Blk w g t cs) (hb : Below B w w') (hg : g < B) : Blk w' g t cs := (hb.block g hg).trans h
theorem Blk.grown {row : Option Nat} (h : Blk w g t cs) (hb : w.grownBy w' row) (hg : some g ≠ row) : Blk w' g t cs := (hb.block g h.lt hg).trans h
theorem Blk.ne_ {g' : Nat} {t' : TypeId} {cs' : Array Value} (h : Blk w g t cs) (h' : Blk w g' t' cs') (hne : t ≠ t') : g ≠ g' := by
 rintro rfl
 unfold Blk at h h'
 rw [h] at h'
 injection h' with h'
 injection h' with _ ht
 exact hne ht
theorem own_blk_ne {base : Nat} {e : TypeId} {size n : Nat} {v : Value} {xs : List Value} (h : w.ownsRow base e size v n xs) (hg : Blk w g t cs) (hne : e ≠ t) : v.ownBlock ≠ some g := by
 rcases h.2 with ⟨rfl, _⟩ | ⟨g', cap, cur, rfl, _, hh, _⟩
 · simp [Value.ownBlock]
 · intro he
   have : g' = g := by simpa [Value.ownBlock] using he
   subst this
   exact Blk.ne_ (t := e) hh hg hne rfl
end
section
variable {P : Program} (w : World)
theorem run_append_of_nil (base : Nat) (t ty e : TypeId) (i : TypeInfo) (size : Nat) (ht : P.underlying t = some (.slice e)) (hi : P.info? e = some i)
 (v : Value) (n : Nat) (xs : List Value) (hown : w.ownsRow base e size v n xs) (c : Nat) : (Builtin.append_ #[t, t] ty #[v, .slice none 0 c]).run P w = .ok v w := by
 rcases hown.2 with ⟨rfl, rfl⟩ | ⟨g, cap, cur, rfl, _, _, hnc, _⟩
 · simp [Builtin.append_, run_underlying ht, sizeOf, typeInfo, hi, Builtin.lenOf, Builtin.firstCells]
 · simp [Builtin.append_, run_underlying ht, sizeOf, typeInfo, hi, Builtin.lenOf, Builtin.firstCells, hnc, storeCells]
theorem run_append_any (base : Nat) (t ty e : TypeId) (i : TypeInfo) (z : Value) (size bytes : Nat) (ht : P.underlying t = some (.slice e)) (hi : P.info? e = some i) (hz : i.zero = some z)
 (hsize : i.size = size) (hby : i.bytes = bytes) (hzs : z.cells.size = size) (hsz : 0 < size)
 (v : Value) (n : Nat) (xs : List Value) (hown : w.ownsRow base e size v n xs)
 (B : Nat) (A : Option Addr) (m c : Nat) (news : List Value) (hr : Reads w B size A m news) (h1 : ∀ u ∈ news, u.oneCell' = true)
 (h63 : n + m ≤ maxLen) (hbytes : (n + m) * bytes ≤ 140737488355328) (hbase : base ≤ w.heap.size) :
 ∃ v' w', (Builtin.append_ #[t, t] ty #[v, .slice A m c]).run P w = .ok v' w' ∧ w'.ownsRow base e size v' (n + m) (xs ++ news) ∧ w.grownBy w' v.ownBlock ∧
   (v'.ownBlock = v.ownBlock ∨ v'.ownBlock = some w.heap.size) := by
 rcases A with _ | ad
 · have hm : m = 0 := by
    rcases Nat.eq_zero_or_pos m with h0 | h0
    · exact h0
    · obtain ⟨ad, h, _⟩ := hr.2 h0
      cases h
   subst hm
   have hn : news = [] := List.eq_nil_of_length_eq_zero (by simpa using hr.1)
   subst hn
   exact ⟨v, w, run_append_of_nil w base t ty e i size ht hi v n xs hown c, by simpa using hown, World.grownBy.refl w _, .inl rfl⟩
 · have hcells : ∀ j u, news[j]? = some u → w.cell? (ad.add j) = some u := by
    intro j u hu
    rcases Nat.eq_zero_or_pos m with h0 | h0
    · subst h0
      have hn : news = [] := List.eq_nil_of_length_eq_zero (by simpa using hr.1)
      subst hn
      simp at hu
    · obtain ⟨ad', h, _, hc⟩ := hr.2 h0
      injection h with h
      subst h
      exact hc j u hu
   obtain ⟨v', w', hrun, h2, h3, _, h5⟩ := run_append_own_at (P := P) w base t ty e i z size bytes ht hi hz hsize hby hzs hsz v n xs hown ad m c news hr.1 hcells h1 h63 hbytes hbase
   exact ⟨v', w', hrun, h2, h3, h5⟩
theorem wp_append_any {o : Oper} {a : Act} {K : Act → World → Prop} {Q : Exit → Act → World → Prop} (s x : Operand) (t : TypeId)
 (ho : o.op = .call { callee := .builtin .append, args := #[s, x], argTypes := #[t, t] })
 (base : Nat) (e : TypeId) (i : TypeInfo) (z : Value) (size bytes : Nat) (ht : P.underlying t = some (.slice e)) (hi : P.info? e = some i) (hz : i.zero = some z)
 (hsize : i.size = size) (hby : i.bytes = bytes) (hzs : z.cells.size = size) (hsz : 0 < size)
 (v : Value) (n : Nat) (xs : List Value) (hs : a.eval s = v) (hown : w.ownsRow base e size v n xs)
 (B : Nat) (A : Option Addr) (m c : Nat) (news : List Value) (hx : a.eval x = .slice A m c) (hr : Reads w B size A m news) (h1 : ∀ u ∈ news, u.oneCell' = true)
 (h63 : n + m ≤ maxLen) (hbytes : (n + m) * bytes ≤ 140737488355328) (hbase : base ≤ w.heap.size)
 (h : ∀ v' w', w'.ownsRow base e size v' (n + m) (xs ++ news) → w.grownBy w' v.ownBlock → (v'.ownBlock = v.ownBlock ∨ v'.ownBlock = some w.heap.size) → K (a.put o.dst v') w') : o.wp P a w K Q := by
 obtain ⟨v', w', hrun, h2, h3, h4⟩ := run_append_any (P := P) w base t o.type e i z size bytes ht hi hz hsize hby hzs hsz v n xs hown B A m c news hr h1 h63 hbytes hbase
 unfold Oper.wp execOp
 simp only [ho, resolve, invoke, builtin, Sem.run_bind, Sem.run_pure, Result.andThen_ok, List.map_toArray, List.map_cons, List.map_nil, hs, hx, hrun]
 exact h v' w' h2 h3 h4
theorem wpList_append_any {ops : Array Oper} {rest : List Oper} {o : Oper} {a : Act} {Q : Exit → Act → World → Prop} (hgd : o.guard = none) (s x : Operand) (t : TypeId)
 (ho : o.op = .call { callee := .builtin .append, args := #[s, x], argTypes := #[t, t] })
 (base : Nat) (e : TypeId) (i : TypeInfo) (z : Value) (size bytes : Nat) (ht : P.underlying t = some (.slice e)) (hi : P.info? e = some i) (hz : i.zero = some z)
 (hsize : i.size = size) (hby : i.bytes = bytes) (hzs : z.cells.size = size) (hsz : 0 < size)
 (v : Value) (n : Nat) (xs : List Value) (hs : a.eval s = v) (hown : w.ownsRow base e size v n xs)
 (B : Nat) (A : Option Addr) (m c : Nat) (news : List Value) (hx : a.eval x = .slice A m c) (hr : Reads w B size A m news) (h1 : ∀ u ∈ news, u.oneCell' = true)
 (h63 : n + m ≤ maxLen) (hbytes : (n + m) * bytes ≤ 140737488355328) (hbase : base ≤ w.heap.size)
 (h : ∀ v' w', w'.ownsRow base e size v' (n + m) (xs ++ news) → w.grownBy w' v.ownBlock → (v'.ownBlock = v.ownBlock ∨ v'.ownBlock = some w.heap.size) → wpList P ops Q rest (a.put o.dst v') w') : wpList P ops Q (o :: rest) a w :=
 wpList_plain hgd fun _ hK => wp_append_any w s x t ho base e i z size bytes ht hi hz hsize hby hzs hsz v n xs hs hown B A m c news hx hr h1 h63 hbytes hbase fun v' w' h2 h3 h4 => hK _ _ (h v' w' h2 h3 h4)
theorem step_append_any {ops : Array Oper} {o : Oper} {a : Act} {K : Act → World → Prop} {Q : Exit → Act → World → Prop} {E : Prop} (hgd : o.guard = none) (s x : Operand) (t : TypeId)
 (ho : o.op = .call { callee := .builtin .append, args := #[s, x], argTypes := #[t, t] })
 (base : Nat) (e : TypeId) (i : TypeInfo) (z : Value) (size bytes : Nat) (ht : P.underlying t = some (.slice e)) (hi : P.info? e = some i) (hz : i.zero = some z)
 (hsize : i.size = size) (hby : i.bytes = bytes) (hzs : z.cells.size = size) (hsz : 0 < size)
 (v : Value) (n : Nat) (xs : List Value) (hs : a.eval s = v) (hown : w.ownsRow base e size v n xs)
 (B : Nat) (A : Option Addr) (m c : Nat) (news : List Value) (hx : a.eval x = .slice A m c) (hr : Reads w B size A m news) (h1 : ∀ u ∈ news, u.oneCell' = true)
 (h63 : n + m ≤ maxLen) (hbytes : (n + m) * bytes ≤ 140737488355328) (hbase : base ≤ w.heap.size)
 (h : ∀ v' w', w'.ownsRow base e size v' (n + m) (xs ++ news) → w.grownBy w' v.ownBlock → (v'.ownBlock = v.ownBlock ∨ v'.ownBlock = some w.heap.size) → K (a.put o.dst v') w') :
 if Region.wanted o (yielded ops a.tmps) = true then Oper.wp P o a w K Q else E := by
 have hw : Region.wanted o (yielded ops a.tmps) = true := by simp [Region.wanted, hgd]
 rw [if_pos hw]
 exact wp_append_any w s x t ho base e i z size bytes ht hi hz hsize hby hzs hsz v n xs hs hown B A m c news hx hr h1 h63 hbytes hbase h
end
section
variable {H : Type} {enc : TypeId × Value → H} {P : Program}
theorem trodAll_below (hl : laidOutB P = true) {W W' : World} (hb : Below W.heap.size W W') :
 ∀ (ts : List TypeId) (vs : List Value) (ds : List (DataW H)) (ps : List MemPlace), (∀ t ∈ ts, P.readableRec t = true ∧ t < P.types.size) →
   DataW.TrodAll enc P W 0 (fun _ => true) true ts vs ds ps → (∀ x ∈ ps, x.block < W.heap.size) →
   DataW.TrodAll enc P W' 0 (fun b => decide (b < W.heap.size)) true ts vs ds ps
 | [], vs, ds, ps, _, h, _ => by
   obtain ⟨rfl, rfl, rfl⟩ := trodAll_nil h
   exact trodAll_mk0
 | t :: ts, vs, ds, ps, ht, h, hlt => by
   obtain ⟨v, vs', d, ds', p, q, rfl, rfl, rfl, h0, h1⟩ := trodAll_cons h
   obtain ⟨hr, hrow⟩ := ht t (by simp)
   exact trodAll_cons_mk (Below.trod hl hr hrow h0 hb fun x hx => hlt x (by simp [hx]))
    (trodAll_below hl hb ts vs' ds' q (fun u hu => ht u (by simp [hu])) h1 fun x hx => hlt x (by simp [hx]))
theorem post_of_below {f : Func} {s : ChangeSpec} {tb : TypeId} (hl : laidOutB P = true) (htb : P.underlying tb = some .bool) (hrt : f.resultTypes = #[tb]) (hvars : s.vars = [])
 (hts : ∀ t ∈ f.params.toList, P.readableRec t = true ∧ t < P.types.size)
 {W W' : World} {args : Array Value} {ds gs : List (DataW H)} {before : List MemPlace}
 (hW : DataW.Whole enc P f.params.toList s.vars false W args.toList ds gs before)
 (hres : (s.fn H (ds ++ gs)).results = [.lit (.bool true)]) (hargs : (s.fn H (ds ++ gs)).args = ds) (hvs : (s.fn H (ds ++ gs)).vars = [])
 (hb : Below W.heap.size W W') :
 s.post enc P f false true false false W args (.bool true) W' := by
 have hlt := hW.lt
 have hW' := hW
 obtain ⟨p, q, hA, hV, rfl, hfz, hnd⟩ := hW
 refine ⟨ds, gs, p ++ q, [], p, [], hW', ?_, ?_, ?_, hb.frame _, fun h => by cases h⟩
 · rw [hres, hrt]
   exact trodAll_mk1 (shut_bool htb true)
 · rw [hargs]
   exact trodAll_below hl hb _ _ _ _ hts hA fun x hx => hlt x (by simp [hx])
 · rw [hvars, hvs]
   rfl
end
theorem add0 (g j : Nat) : (⟨g, 0, none⟩ : Addr).add j = ⟨g, j, none⟩ := by
 unfold Addr.add
 by_cases h : j = 0
 · subst h; simp
 · simp [h]
section
variable {P : Program}
theorem own_ge {w : World} {base : Nat} {e : TypeId} {size n : Nat} {v : Value} {xs : List Value} (h : w.ownsRow base e size v n xs) : ∀ k, v.ownBlock = some k → base ≤ k := by
 intro k hk
 rcases h.2 with ⟨rfl, _⟩ | ⟨g, cap, cur, rfl, hg, _⟩
 · simp [Value.ownBlock] at hk
 · simp [Value.ownBlock] at hk; omega
theorem own_lt {w : World} {base : Nat} {e : TypeId} {size n : Nat} {v : Value} {xs : List Value} (h : w.ownsRow base e size v n xs) : ∀ k, v.ownBlock = some k → k < w.heap.size := by
 intro k hk
 rcases h.2 with ⟨rfl, _⟩ | ⟨g, cap, cur, rfl, _, hh, _⟩
 · simp [Value.ownBlock] at hk
 · simp [Value.ownBlock] at hk
   rcases Nat.lt_or_ge g w.heap.size with hlt | hge
   · omega
   · rw [Array.getElem?_eq_none hge] at hh; cases hh
theorem own_nil {w : World} {base : Nat} {e : TypeId} {size n : Nat} {v : Value} {xs : List Value} (h : w.ownsRow base e size v n xs) (hn : xs ≠ []) : ∃ g cap, v = .slice (some ⟨g, 0, none⟩) n cap ∧ n ≤ cap ∧ cap ≤ maxLen := by
 rcases h.2 with ⟨rfl, rfl⟩ | ⟨g, cap, cur, rfl, _, _, hn, hc, _⟩
 · exact absurd (List.eq_nil_of_length_eq_zero (by simpa using h.1)) hn
 · exact ⟨g, cap, rfl, hn, hc⟩
theorem grown_unalloc {w w' : World} {o : Obj} {row : Option Nat} (h : (w.alloc o).grownBy w' row) : w.grownBy w' row :=
 ⟨h.os, h.tape, h.output, by have := h.size; simp at this; omega, fun k hk hne => by
   rw [h.block k (by simp; omega) hne]; exact Below.heap_alloc w o k hk⟩
theorem below_grown {w w' : World} {base : Nat} {row : Option Nat} (hg : w.grownBy w' row) (hB : base ≤ w.heap.size) (hr : ∀ k, row = some k → base ≤ k) : Below base w w' :=
 (Below.refl base w).grown hg hB hr
theorem own_kept {w w' : World} {base : Nat} {e : TypeId} {size n : Nat} {v : Value} {xs : List Value} {row : Option Nat} (h : w.ownsRow base e size v n xs) (hg : w.grownBy w' row) (hne : v.ownBlock = none ∨ v.ownBlock ≠ row) : w'.ownsRow base e size v n xs := by
 have hlt := own_lt h
 obtain ⟨h1, h2⟩ := h
 refine ⟨h1, ?_⟩
 rcases h2 with h2 | ⟨g, cap, cur, rfl, hb, hh, hr⟩
 · exact .inl h2
 · refine .inr ⟨g, cap, cur, rfl, hb, ?_, hr⟩
   have hn : ¬ some g = row := by
    rcases hne with h | h
    · simp [Value.ownBlock] at h
    · simpa [Value.ownBlock] using h
   rw [hg.block g (hlt g rfl) hn]
   exact hh
theorem wpList_app1 {ops : Array Oper} {rest : List Oper} {o : Oper} {a : Act} {Q : Exit → Act → World → Prop} (w : World) (hgd : o.guard = none) (s x : Operand) (t : TypeId)
 (ho : o.op = .call { callee := .builtin .append, args := #[s, x], argTypes := #[t, t] })
 (base : Nat) (e : TypeId) (i : TypeInfo) (z : Value) (size bytes : Nat) (ht : P.underlying t = some (.slice e)) (hi : P.info? e = some i) (hz : i.zero = some z)
 (hsize : i.size = size) (hby : i.bytes = bytes) (hzs : z.cells.size = size) (hsz : 0 < size) (hby2 : bytes ≤ 1024)
 (v : Value) (n : Nat) (xs : List Value) (hs : a.eval s = v) (hown : w.ownsRow base e size v n xs)
 (cs : Array Value) (c : Nat) (hx : a.eval x = .slice (some ⟨w.heap.size, 0, none⟩) 1 c) (hcs : cs.size = size) (h1 : ∀ u ∈ cs.toList, u.oneCell' = true)
 (hn : n ≤ 100000000) (hbase : base ≤ w.heap.size)
 (h : ∀ v' w', w'.ownsRow base e size v' (n + 1) (xs ++ cs.toList) → Below base w w' → w.grownBy w' v.ownBlock → (v'.ownBlock = v.ownBlock ∨ v'.ownBlock = some (w.heap.size + 1)) → wpList P ops Q rest (a.put o.dst v') w') :
 wpList P ops Q (o :: rest) a (w.alloc (.cells cs e)) := by
 refine wpList_append_any _ hgd s x t ho base e i z size bytes ht hi hz hsize hby hzs hsz v n xs hs (hown.alloc _) (w.heap.size + 1) _ 1 c cs.toList hx ?_ h1 (by simp only [maxLen]; omega) ?_ (by simp; omega) ?_
 · refine ⟨by simp [hcs], fun _ => ⟨_, rfl, by simp, fun j u hj => ?_⟩⟩
   have e1 : (w.alloc (.cells cs e)).heap[w.heap.size]? = some (.cells cs e) := heap_alloc_new w _
   rw [add0, cell_of_row _ _ j _ _ _ e1]
   simpa using hj
 · have : (n + 1) * bytes ≤ 100000001 * 1024 := Nat.mul_le_mul (by omega) hby2
   omega
 · intro v' w' h2 h3 h4
   have hg := grown_unalloc h3
   exact h v' w' h2 (below_grown hg hbase (own_ge hown)) hg (by simpa using h4)
end
theorem bs_size (x : List UInt8) : (⟨x.toArray⟩ : ByteArray).size = x.length := by simp [ByteArray.size]
theorem bs_extract (s : ByteArray) (a b : Nat) : (s.extract a b).data.toList = (s.data.toList.take b).drop a := by
 rw [Lib.extract_data, List.drop_take]
theorem bs_append (s t : ByteArray) : (s ++ t).data.toList = s.data.toList ++ t.data.toList := by rw [ByteArray.data_append, Array.toList_append]
theorem bs_len (s : ByteArray) : s.data.toList.length = s.size := rfl
theorem bs_ext {s t : ByteArray} (h : s.data.toList = t.data.toList) : s = t := by
 cases s; cases t; simp at h; simp [h]
def u8v (c : UInt8) : Value := .int .u8 c.toNat
def OwnU8 (w : World) (B : Nat) (v : Value) (l : List UInt8) : Prop := w.ownsRow B 5 1 v l.length (l.map u8v)
theorem Try.info_u8 : (Try.prog.info? 5).map (fun i => (i.zero, i.size, i.bytes)) = some (some (.int .u8 0), 1, 1) := by kernel_rfl
theorem OwnU8.nil (w : World) (B : Nat) : OwnU8 w B (.slice none 0 0) [] := World.ownsRow_nil _ _ _ _
theorem wpList_app_u8 {ops : Array Oper} {rest : List Oper} {o : Oper} {a : Act} {Q : Exit → Act → World → Prop} (w : World) (hgd : o.guard = none) (s x : Operand)
 (ho : o.op = .call { callee := .builtin .append, args := #[s, x], argTypes := #[153, 153] })
 (B : Nat) (v : Value) (l : List UInt8) (hs : a.eval s = v) (hown : OwnU8 w B v l)
 (u : Value) (c : Nat) (hx : a.eval x = .slice (some ⟨w.heap.size, 0, none⟩) 1 c) (b : UInt8) (hb : u = u8v b)
 (hn : l.length ≤ 100000000) (hB : B ≤ w.heap.size)
 (h : ∀ v' w', OwnU8 w' B v' (l ++ [b]) → Below B w w' → w.grownBy w' v.ownBlock → (v'.ownBlock = v.ownBlock ∨ v'.ownBlock = some (w.heap.size + 1)) → wpList Try.prog ops Q rest (a.put o.dst v') w') :
 wpList Try.prog ops Q (o :: rest) a (w.alloc (.cells #[u] 5)) := by
 obtain ⟨i0, hi, hz0, hz1, hz2⟩ := info_parts Try.info_u8
 subst hb
 refine wpList_app1 w hgd s x 153 ho B 5 i0 _ 1 1 Try.underlying153 hi hz0 hz1 hz2 rfl (by omega) (by omega) v _ _ hs hown _ c hx rfl (by simp [u8v, Value.oneCell']) hn hB ?_
 intro v' w' h1 h2 h3 h4
 exact h v' w' (by simpa [OwnU8] using h1) h2 h3 h4
theorem own_below {w w' : World} {base : Nat} {e : TypeId} {size n : Nat} {v : Value} {xs : List Value} (h : w.ownsRow base e size v n xs) (hb : Below w.heap.size w w') : w'.ownsRow base e size v n xs := by
 have hlt := own_lt h
 obtain ⟨h1, h2⟩ := h
 refine ⟨h1, ?_⟩
 rcases h2 with h2 | ⟨g, cap, cur, rfl, hg, hh, hr⟩
 · exact .inl h2
 · exact .inr ⟨g, cap, cur, rfl, hg, by rw [hb.block g (hlt g rfl)]; exact hh, hr⟩
theorem run_string_own {w : World} {B : Nat} {v : Value} {l : List UInt8} (h : OwnU8 w B v l) : (convert 153 9 v).run Try.prog w = .ok (.string ⟨l.toArray⟩) w := by
 rcases h.2 with ⟨rfl, h0⟩ | ⟨g, cap, cur, rfl, _, hh, hn, hc, hcs, htk⟩
 · obtain rfl : l = [] := List.eq_nil_of_length_eq_zero h0
   rw [run_convert_bytes_string w 153 9 5 none 0 0 Try.underlying153 Try.underlying5 Try.underlying9]
   simp [Conv.bytesToString]
   rfl
 · refine run_convert_bytes_back w _ _ 5 _ _ l Try.underlying153 Try.underlying5 Try.underlying9 fun j hj => ?_
   have e : (l.map u8v)[j]? = some (.int .u8 (l[j].toNat : Int)) := by simp [hj, u8v]
   rw [← htk] at e
   rw [List.getElem?_take] at e
   split at e
   · rw [add0, cell_of_row _ _ j _ _ _ hh]
     simpa using e
   · cases e
def Rd (w : World) (B size : Nat) (A : Option Addr) (n c : Nat) (cs : List Value) : Prop :=
 n ≤ c ∧ c ≤ maxLen ∧ cs.length = n * size ∧ (0 < n → ∃ b o, A = some ⟨b, o, none⟩ ∧ b < B ∧ ∀ j u, cs[j]? = some u → w.cell? ⟨b, o + j, none⟩ = some u)
section
variable {w w' : World} {B B' size n c : Nat} {A : Option Addr} {cs : List Value}
theorem Rd.nil (w : World) (B size : Nat) : Rd w B size none 0 0 [] := ⟨Nat.le_refl _, Nat.zero_le _, by simp, fun h => absurd h (by omega)⟩
theorem Rd.keep (h : Rd w B size A n c cs) (hk : ∀ p : Addr, p.block < B → w'.cell? p = w.cell? p) : Rd w' B size A n c cs :=
 ⟨h.1, h.2.1, h.2.2.1, fun hn => by
   obtain ⟨b, o, e, hb, hc⟩ := h.2.2.2 hn
   exact ⟨b, o, e, hb, fun j u hu => (hk _ hb).trans (hc j u hu)⟩⟩
theorem Rd.more (h : Rd w B size A n c cs) (hB : B ≤ B') : Rd w B' size A n c cs :=
 ⟨h.1, h.2.1, h.2.2.1, fun hn => by
   obtain ⟨b, o, e, hb, hc⟩ := h.2.2.2 hn
   exact ⟨b, o, e, by omega, hc⟩⟩
theorem Rd.below (h : Rd w B size A n c cs) (hb : Below B w w') : Rd w' B size A n c cs := h.keep fun _ hp => hb.cell hp
theorem Rd.drewN (h : Rd w B size A n c cs) (k : Nat) : Rd (w.drewN k) B size A n c cs := h
theorem Rd.alloc (h : Rd w B size A n c cs) (hB : B ≤ w.heap.size) (o : Obj) : Rd (w.alloc o) B size A n c cs := h.keep fun p hp => World.cell?_alloc_lt w o p (by omega)
theorem Rd.own {base : Nat} {e : TypeId} {v : Value} (h : w.ownsRow base e size v n cs) : ∃ A c, v = .slice A n c ∧ Rd w w.heap.size size A n c cs := by
 rcases h.2 with ⟨rfl, rfl⟩ | ⟨g, cap, cur, rfl, hg, hh, hn, hc, hcs, htk⟩
 · have : cs = [] := List.eq_nil_of_length_eq_zero (by simpa using h.1)
   subst this
   exact ⟨_, _, rfl, Rd.nil _ _ _⟩
 · refine ⟨_, _, rfl, hn, hc, h.1, fun _ => ⟨g, 0, rfl, own_lt h g rfl, fun j u hu => ?_⟩⟩
   rw [Nat.zero_add, cell_of_row _ _ j _ _ _ hh]
   rw [← htk, List.getElem?_take] at hu
   split at hu
   · simpa using hu
   · cases hu
theorem Rd.built (w : World) (e : TypeId) (cs : Array Value) (hn : cs.size = n * size) (hm : n ≤ maxLen) : Rd (w.alloc (.cells cs e)) (w.heap.size + 1) size (some ⟨w.heap.size, 0, none⟩) n n cs.toList :=
 ⟨Nat.le_refl _, hm, by simpa using hn, fun _ => ⟨_, 0, rfl, by omega, fun j u hu => by
   rw [Nat.zero_add, cell_of_row _ _ j _ _ _ (heap_alloc_new w _)]; simpa using hu⟩⟩
end
theorem spot_of_cell {w : World} {a : Addr} {v : Value} (h : w.cell? a = some v) : a = ⟨a.block, a.off, none⟩ := by
 obtain ⟨b, o, s⟩ := a
 cases s with
 | none => rfl
 | some s =>
   simp only [World.cell?] at h
   split at h
   · simp at h
   · cases h
theorem block_of_cell {w : World} {a : Addr} {v : Value} (h : w.cell? a = some v) : a.block < w.heap.size := by
 rcases Nat.lt_or_ge a.block w.heap.size with hlt | hge
 · exact hlt
 · simp only [World.cell?, Array.getElem?_eq_none hge] at h
   cases h
theorem rd_of {w : World} {a : Addr} {n c size : Nat} {cs : List Value} (hsz : 0 < size) (h1 : n ≤ c) (h2 : c ≤ maxLen) (h3 : cs.length = n * size) (h4 : ∀ j u, cs[j]? = some u → w.cell? (a.add j) = some u) : Rd w w.heap.size size (some a) n c cs := by
 refine ⟨h1, h2, h3, fun hn => ?_⟩
 have hl : 0 < cs.length := by rw [h3]; exact Nat.mul_pos hn hsz
 have h0 := h4 0 _ (List.getElem?_eq_getElem hl)
 have e0 : a.add 0 = a := by simp [Addr.add]
 rw [e0] at h0
 have ea := spot_of_cell h0
 refine ⟨a.block, a.off, by rw [← ea], block_of_cell h0, fun j u hj => ?_⟩
 have := h4 j u hj
 rw [ea] at this
 rcases Nat.eq_zero_or_pos j with rfl | hj0
 · simpa [Addr.add] using this
 · simpa [Addr.add, Nat.ne_of_gt hj0] using this
theorem below_drewN_ {B : Nat} {a w : World} (h : Below B a w) (n : Nat) : Below B a (w.drewN n) := ⟨h.os, h.tape, h.output, h.size, h.block⟩
end Go.Proofs.Ytokngfinnieccaa
namespace Go.Proofs.Ytokngfinnieccaa
set_option linter.unusedVariables false
set_option linter.unusedSimpArgs false
set_option maxRecDepth 100000
set_option maxHeartbeats 4000000
abbrev U := Option (Option UInt8)
abbrev Pt := Int × Int × ByteArray
def emp : ByteArray := ⟨#[]⟩
def up (p : Pt) : List U := if p.1 = 1 then List.replicate p.2.1.toNat none else if p.1 = 2 then p.2.2.data.toList.map (fun b => some (some b)) else List.replicate p.2.1.toNat (some none)
def units (d : List Pt) : List U := d.flatMap up
def nI : List U → Nat
 | [] => 0
 | some (some _) :: r => nI r
 | _ :: r => nI r + 1
def nO : List U → Nat
 | [] => 0
 | some none :: r => nO r
 | _ :: r => nO r + 1
def ap {α : Type} (f : UInt8 → α) : List U → List α → List α
 | none :: us, x :: s => x :: ap f us s
 | some none :: us, _ :: s => ap f us s
 | some (some b) :: us, s => f b :: ap f us s
 | _, _ => []
theorem nI_append (a b : List U) : nI (a ++ b) = nI a + nI b := by
 induction a with
 | nil => simp [nI]
 | cons u a ih => rcases u with _ | _ | x <;> simp [nI, ih] <;> omega
theorem nO_append (a b : List U) : nO (a ++ b) = nO a + nO b := by
 induction a with
 | nil => simp [nO]
 | cons u a ih => rcases u with _ | _ | x <;> simp [nO, ih] <;> omega
theorem ap_length {α : Type} (f : UInt8 → α) : ∀ (us : List U) (s : List α), nI us = s.length → (ap f us s).length = nO us
 | [], s, _ => by simp [ap, nO]
 | none :: us, [], h => by simp [nI] at h
 | none :: us, x :: s, h => by simp [ap, nO, ap_length f us s (by simpa [nI] using h)]
 | some none :: us, [], h => by simp [nI] at h
 | some none :: us, x :: s, h => by simp [ap, nO, ap_length f us s (by simpa [nI] using h)]
 | some (some b) :: us, s, h => by simp [ap, nO, ap_length f us s (by simpa [nI] using h)]
theorem ap_append {α : Type} (f : UInt8 → α) : ∀ (us vs : List U) (s t : List α), nI us = s.length → ap f (us ++ vs) (s ++ t) = ap f us s ++ ap f vs t
 | [], vs, [], t, _ => by simp [ap]
 | [], vs, x :: s, t, h => by simp [nI] at h
 | none :: us, vs, [], t, h => by simp [nI] at h
 | none :: us, vs, x :: s, t, h => by simp [ap, ap_append f us vs s t (by simpa [nI] using h)]
 | some none :: us, vs, [], t, h => by simp [nI] at h
 | some none :: us, vs, x :: s, t, h => by simp [ap, ap_append f us vs s t (by simpa [nI] using h)]
 | some (some b) :: us, vs, s, t, h => by simp [ap, ap_append f us vs s t (by simpa [nI] using h)]
def insC : List U → List U
 | some (some b) :: us => some (some b) :: insC us
 | us => some none :: us
def cz : List U → List U
 | [] => []
 | some none :: us => insC (cz us)
 | u :: us => u :: cz us
theorem nI_insC (us : List U) : nI (insC us) = nI us + 1 := by
 induction us with
 | nil => rfl
 | cons u us ih => rcases u with _ | _ | x <;> simp [insC, nI, ih]
theorem nO_insC (us : List U) : nO (insC us) = nO us := by
 induction us with
 | nil => rfl
 | cons u us ih => rcases u with _ | _ | x <;> simp [insC, nO, ih]
theorem nI_cz (us : List U) : nI (cz us) = nI us := by
 induction us with
 | nil => rfl
 | cons u us ih => rcases u with _ | _ | x <;> simp [cz, nI, ih, nI_insC]
theorem nO_cz (us : List U) : nO (cz us) = nO us := by
 induction us with
 | nil => rfl
 | cons u us ih => rcases u with _ | _ | x <;> simp [cz, nO, ih, nO_insC]
theorem ap_insC {α : Type} (f : UInt8 → α) (us : List U) (y : α) (s : List α) : ap f (insC us) (y :: s) = ap f us s := by
 induction us with
 | nil => rfl
 | cons u us ih => rcases u with _ | _ | x <;> simp [insC, ap, ih]
theorem ap_cz {α : Type} (f : UInt8 → α) : ∀ (us : List U) (s : List α), nI us = s.length → ap f (cz us) s = ap f us s
 | [], s, _ => rfl
 | none :: us, [], h => by simp [nI] at h
 | none :: us, x :: s, h => by simp [cz, ap, ap_cz f us s (by simpa [nI] using h)]
 | some none :: us, [], h => by simp [nI] at h
 | some none :: us, x :: s, h => by simp [cz, ap, ap_insC, ap_cz f us s (by simpa [nI] using h)]
 | some (some b) :: us, s, h => by simp [cz, ap, ap_cz f us s (by simpa [nI] using h)]
theorem cz_insC (us : List U) : cz (insC us) = insC (cz us) := by
 induction us with
 | nil => rfl
 | cons u us ih => rcases u with _ | _ | x <;> simp [insC, cz, ih]
theorem cz_cz (us : List U) : cz (cz us) = cz us := by
 induction us with
 | nil => rfl
 | cons u us ih => rcases u with _ | _ | x <;> simp [cz, ih, cz_insC]
theorem insC_keep (a b : List U) : insC (a ++ none :: b) = insC a ++ none :: b := by
 induction a with
 | nil => rfl
 | cons u a ih => rcases u with _ | _ | x <;> simp [insC, ih]
theorem cz_keep (a b : List U) : cz (a ++ none :: b) = cz a ++ none :: cz b := by
 induction a with
 | nil => rfl
 | cons u a ih => rcases u with _ | _ | x <;> simp [cz, ih, insC_keep]
theorem cz_insC_app (a b : List U) : cz (insC a ++ b) = cz (some none :: (a ++ b)) := by
 induction a with
 | nil => rfl
 | cons u a ih => rcases u with _ | _ | x <;> simp_all [insC, cz]
theorem cz_cz_app (a b : List U) : cz (cz a ++ b) = cz (a ++ b) := by
 induction a with
 | nil => rfl
 | cons u a ih => rcases u with _ | _ | x <;> simp [cz, ih, cz_insC_app]
theorem insC_puts (p : List UInt8) (c : Nat) : insC (p.map (fun b => some (some b)) ++ List.replicate c (some none)) = p.map (fun b => some (some b)) ++ List.replicate (c + 1) (some none) := by
 induction p with
 | nil => cases c <;> rfl
 | cons x p ih => simp [insC, ih]
theorem cz_puts (p : List UInt8) (c : Nat) (us : List U) : cz (p.map (fun b => some (some b)) ++ us) = p.map (fun b => some (some b)) ++ cz us := by
 induction p with
 | nil => rfl
 | cons x p ih => simp [cz, ih]
def tgs (us : List U) : List (Nat ⊕ UInt8) := ap .inr us ((List.range (nI us)).map .inl)
def unt : Nat → Nat → List (Nat ⊕ UInt8) → List U
 | i, n, [] => List.replicate (n - i) (some none)
 | i, n, .inr b :: t => some (some b) :: unt i n t
 | i, n, .inl j :: t => List.replicate (j - i) (some none) ++ none :: unt (j + 1) n t
def tgf (i : Nat) (us : List U) : List (Nat ⊕ UInt8) := ap .inr us ((List.range' i (nI us)).map .inl)
theorem tgf_ge (i : Nat) : ∀ (us : List U) (j : Nat), Sum.inl j ∈ tgf i us → i ≤ j ∧ j < i + nI us := by
 intro us
 induction us generalizing i with
 | nil => intro j h; simp [tgf, ap] at h
 | cons u us ih =>
   intro j h
   rcases u with _ | _ | x
   · simp only [tgf, nI, List.range'_succ, List.map_cons, ap, List.mem_cons] at h ⊢
     rcases h with h | h
     · injection h with h; omega
     · have := ih (i + 1) j h; omega
   · simp only [tgf, nI, List.range'_succ, List.map_cons, ap] at h ⊢
     have := ih (i + 1) j h; omega
   · simp only [tgf, nI, ap, List.mem_cons] at h ⊢
     rcases h with h | h
     · cases h
     · exact ih i j h
theorem insC_unt (i n : Nat) (h : i < n) : ∀ t : List (Nat ⊕ UInt8), (∀ j, Sum.inl j ∈ t → i + 1 ≤ j) → insC (unt (i + 1) n t) = unt i n t
 | [], _ => by
   simp only [unt]
   have e : n - i = (n - (i + 1)) + 1 := by omega
   rw [e]
   cases n - (i + 1) <;> rfl
 | .inr b :: t, hj => by simp only [unt, insC]; rw [insC_unt i n h t fun j hm => hj j (by simp [hm])]
 | .inl j :: t, hj => by
   have := hj j (by simp)
   simp only [unt]
   have e : j - i = (j - (i + 1)) + 1 := by omega
   rw [insC_keep, e]
   cases j - (i + 1) <;> rfl
theorem cz_unt (i : Nat) (us : List U) : cz us = unt i (i + nI us) (tgf i us) := by
 induction us generalizing i with
 | nil => simp [cz, tgf, ap, unt, nI]
 | cons u us ih =>
   rcases u with _ | _ | x
   · simp only [cz, tgf, nI, List.range'_succ, List.map_cons, ap, unt]
     rw [ih (i + 1), Nat.sub_self, List.replicate_zero, List.nil_append, show i + 1 + nI us = i + (nI us + 1) by omega]
     rfl
   · simp only [cz, tgf, nI, List.range'_succ, List.map_cons, ap]
     rw [ih (i + 1), show i + 1 + nI us = i + (nI us + 1) by omega, insC_unt i _ (by omega)]
     · rfl
     · intro j hj; exact (tgf_ge (i + 1) us j hj).1
   · simp only [cz, tgf, nI, ap, unt]
     rw [ih i]
     rfl
theorem cz_of_tgs {us vs : List U} (hn : nI us = nI vs) (h : tgs us = tgs vs) : cz us = cz vs := by
 rw [cz_unt 0 us, cz_unt 0 vs]
 simp only [tgs, List.range_eq_range'] at h
 simp only [tgf]
 rw [h, hn]
theorem cz_of_ap {us vs : List U} (hn : nI us = nI vs) (h : ∀ s : List (Nat ⊕ UInt8), s.length = nI us → ap .inr us s = ap .inr vs s) : cz us = cz vs := by
 refine cz_of_tgs hn ?_
 unfold tgs
 rw [h _ (by simp), hn]
def lead : List U → List U
 | some (some b) :: ys => some (some b) :: lead ys
 | _ => []
def rst : List U → List U
 | some (some b) :: ys => rst ys
 | ys => ys
def cmp : List U → List U → List U
 | [], ys => lead ys
 | some none :: xs, ys => some none :: cmp xs ys
 | none :: xs, ys => lead ys ++ match rst ys with
   | none :: r => none :: cmp xs r
   | some none :: r => some none :: cmp xs r
   | _ => []
 | some (some b) :: xs, ys => lead ys ++ match rst ys with
   | none :: r => some (some b) :: cmp xs r
   | some none :: r => cmp xs r
   | _ => []
def mt : List U → List U → List U × List U
 | [], ys => ((lead ys).map (fun _ => none), lead ys)
 | some (some b) :: xs, ys => (some (some b) :: (mt xs ys).1, none :: (mt xs ys).2)
 | none :: xs, ys => ((lead ys).map (fun _ => none) ++ (match rst ys with
   | none :: r => none :: (mt xs r).1
   | some none :: r => (mt xs r).1
   | _ => []), lead ys ++ (match rst ys with
   | none :: r => none :: (mt xs r).2
   | some none :: r => some none :: (mt xs r).2
   | _ => []))
 | some none :: xs, ys => ((lead ys).map (fun _ => none) ++ (match rst ys with
   | none :: r => some none :: (mt xs r).1
   | some none :: r => (mt xs r).1
   | _ => []), lead ys ++ (match rst ys with
   | none :: r => (mt xs r).2
   | some none :: r => (mt xs r).2
   | _ => []))
theorem cmp_put (xs ys : List U) (b : UInt8) (h : ∀ r, xs ≠ some none :: r) : cmp xs (some (some b) :: ys) = some (some b) :: cmp xs ys := by
 rcases xs with _ | ⟨_ | _ | x, xs⟩
 · rfl
 · rfl
 · exact absurd rfl (h xs)
 · rfl
theorem mt_put (xs ys : List U) (b : UInt8) (h : ∀ c r, xs ≠ some (some c) :: r) : mt xs (some (some b) :: ys) = (none :: (mt xs ys).1, some (some b) :: (mt xs ys).2) := by
 rcases xs with _ | ⟨_ | _ | x, xs⟩
 · rfl
 · rfl
 · rfl
 · exact absurd rfl (h x xs)
theorem cmp_ind {M : List U → List U → Prop} (h0 : M [] []) (hc : ∀ xs ys, nO xs = nI ys → M xs ys → M (some none :: xs) ys)
 (hp : ∀ xs b ys, (∀ r, xs ≠ some none :: r) → nO xs = nI ys → M xs ys → M xs (some (some b) :: ys))
 (hkk : ∀ xs ys, nO xs = nI ys → M xs ys → M (none :: xs) (none :: ys)) (hkc : ∀ xs ys, nO xs = nI ys → M xs ys → M (none :: xs) (some none :: ys))
 (hpk : ∀ b xs ys, nO xs = nI ys → M xs ys → M (some (some b) :: xs) (none :: ys)) (hpc : ∀ b xs ys, nO xs = nI ys → M xs ys → M (some (some b) :: xs) (some none :: ys)) :
 ∀ (n : Nat) (xs ys : List U), xs.length + ys.length ≤ n → nO xs = nI ys → M xs ys := by
 intro n
 induction n with
 | zero =>
   intro xs ys hn h
   obtain rfl : xs = [] := List.eq_nil_of_length_eq_zero (by omega)
   obtain rfl : ys = [] := List.eq_nil_of_length_eq_zero (by omega)
   exact h0
 | succ n ih =>
   intro xs ys hn h
   have hput : ∀ b ys', ys = some (some b) :: ys' → (∀ r, xs ≠ some none :: r) → M xs ys := by
    rintro b ys' rfl hx
    simp only [List.length_cons] at hn
    exact hp xs b ys' hx (by simpa [nI] using h) (ih _ _ (by omega) (by simpa [nI] using h))
   rcases xs with _ | ⟨_ | _ | x, xs⟩
   · rcases ys with _ | ⟨_ | _ | y, ys⟩
     · exact h0
     · simp [nO, nI] at h
     · simp [nO, nI] at h
     · exact hput y ys rfl (by simp)
   · rcases ys with _ | ⟨_ | _ | y, ys⟩
     · simp [nO, nI] at h
     · simp only [List.length_cons] at hn
       simp only [nO, nI, Nat.add_right_cancel_iff] at h
       exact hkk _ _ h (ih _ _ (by omega) h)
     · simp only [List.length_cons] at hn
       simp only [nO, nI, Nat.add_right_cancel_iff] at h
       exact hkc _ _ h (ih _ _ (by omega) h)
     · exact hput y ys rfl (by simp)
   · simp only [List.length_cons] at hn
     simp only [nO] at h
     exact hc _ _ h (ih _ _ (by omega) h)
   · rcases ys with _ | ⟨_ | _ | y, ys⟩
     · simp [nO, nI] at h
     · simp only [List.length_cons] at hn
       simp only [nO, nI, Nat.add_right_cancel_iff] at h
       exact hpk _ _ _ h (ih _ _ (by omega) h)
     · simp only [List.length_cons] at hn
       simp only [nO, nI, Nat.add_right_cancel_iff] at h
       exact hpc _ _ _ h (ih _ _ (by omega) h)
     · exact hput y ys rfl (by simp)
theorem mt_ind {M : List U → List U → Prop} (h0 : M [] []) (hx : ∀ b xs ys, nI xs = nI ys → M xs ys → M (some (some b) :: xs) ys)
 (hy : ∀ xs b ys, (∀ c r, xs ≠ some (some c) :: r) → nI xs = nI ys → M xs ys → M xs (some (some b) :: ys))
 (hkk : ∀ xs ys, nI xs = nI ys → M xs ys → M (none :: xs) (none :: ys)) (hkc : ∀ xs ys, nI xs = nI ys → M xs ys → M (none :: xs) (some none :: ys))
 (hck : ∀ xs ys, nI xs = nI ys → M xs ys → M (some none :: xs) (none :: ys)) (hcc : ∀ xs ys, nI xs = nI ys → M xs ys → M (some none :: xs) (some none :: ys)) :
 ∀ (n : Nat) (xs ys : List U), xs.length + ys.length ≤ n → nI xs = nI ys → M xs ys := by
 intro n
 induction n with
 | zero =>
   intro xs ys hn h
   obtain rfl : xs = [] := List.eq_nil_of_length_eq_zero (by omega)
   obtain rfl : ys = [] := List.eq_nil_of_length_eq_zero (by omega)
   exact h0
 | succ n ih =>
   intro xs ys hn h
   have hput : ∀ b ys', ys = some (some b) :: ys' → (∀ c r, xs ≠ some (some c) :: r) → M xs ys := by
    rintro b ys' rfl hx'
    simp only [List.length_cons] at hn
    exact hy xs b ys' hx' (by simpa [nI] using h) (ih _ _ (by omega) (by simpa [nI] using h))
   rcases xs with _ | ⟨_ | _ | x, xs⟩
   · rcases ys with _ | ⟨_ | _ | y, ys⟩
     · exact h0
     · simp [nI] at h
     · simp [nI] at h
     · exact hput y ys rfl (by simp)
   · rcases ys with _ | ⟨_ | _ | y, ys⟩
     · simp [nI] at h
     · simp only [List.length_cons] at hn
       simp only [nI, Nat.add_right_cancel_iff] at h
       exact hkk _ _ h (ih _ _ (by omega) h)
     · simp only [List.length_cons] at hn
       simp only [nI, Nat.add_right_cancel_iff] at h
       exact hkc _ _ h (ih _ _ (by omega) h)
     · exact hput y ys rfl (by simp)
   · rcases ys with _ | ⟨_ | _ | y, ys⟩
     · simp [nI] at h
     · simp only [List.length_cons] at hn
       simp only [nI, Nat.add_right_cancel_iff] at h
       exact hck _ _ h (ih _ _ (by omega) h)
     · simp only [List.length_cons] at hn
       simp only [nI, Nat.add_right_cancel_iff] at h
       exact hcc _ _ h (ih _ _ (by omega) h)
     · exact hput y ys rfl (by simp)
   · simp only [List.length_cons] at hn
     simp only [nI] at h
     exact hx _ _ _ h (ih _ _ (by omega) h)
theorem nI_cmp (xs ys : List U) (h : nO xs = nI ys) : nI (cmp xs ys) = nI xs := by
 refine cmp_ind (M := fun xs ys => nI (cmp xs ys) = nI xs) rfl ?_ ?_ ?_ ?_ ?_ ?_ _ xs ys (Nat.le_refl _) h
 · intro xs ys _ ih; simp [cmp, nI, ih]
 · intro xs b ys hx _ ih; rw [cmp_put _ _ _ hx]; simp [nI, ih]
 all_goals intros; simp_all [cmp, rst, lead, nI]
theorem nO_cmp (xs ys : List U) (h : nO xs = nI ys) : nO (cmp xs ys) = nO ys := by
 refine cmp_ind (M := fun xs ys => nO (cmp xs ys) = nO ys) rfl ?_ ?_ ?_ ?_ ?_ ?_ _ xs ys (Nat.le_refl _) h
 · intro xs ys _ ih; simp [cmp, nO, ih]
 · intro xs b ys hx _ ih; rw [cmp_put _ _ _ hx]; simp [nO, ih]
 all_goals intros; simp_all [cmp, rst, lead, nO]
theorem ap_cmp {α : Type} (f : UInt8 → α) (xs ys : List U) (h : nO xs = nI ys) : ∀ s : List α, nI xs = s.length → ap f (cmp xs ys) s = ap f ys (ap f xs s) := by
 refine cmp_ind (M := fun xs ys => ∀ s : List α, nI xs = s.length → ap f (cmp xs ys) s = ap f ys (ap f xs s)) ?_ ?_ ?_ ?_ ?_ ?_ ?_ _ xs ys (Nat.le_refl _) h
 · intro s hs; rfl
 · intro xs ys _ ih s hs
   rcases s with _ | ⟨x, s⟩
   · simp [nI] at hs
   · simp [cmp, ap, ih s (by simpa [nI] using hs)]
 · intro xs b ys hx _ ih s hs
   rw [cmp_put _ _ _ hx]
   simp [ap, ih s hs]
 · intro xs ys _ ih s hs
   rcases s with _ | ⟨x, s⟩
   · simp [nI] at hs
   · simp [cmp, rst, lead, ap, ih s (by simpa [nI] using hs)]
 · intro xs ys _ ih s hs
   rcases s with _ | ⟨x, s⟩
   · simp [nI] at hs
   · simp [cmp, rst, lead, ap, ih s (by simpa [nI] using hs)]
 · intro b xs ys _ ih s hs
   simp [cmp, rst, lead, ap, ih s (by simpa [nI] using hs)]
 · intro b xs ys _ ih s hs
   simp [cmp, rst, lead, ap, ih s (by simpa [nI] using hs)]
theorem nI_mt (xs ys : List U) (h : nI xs = nI ys) : nI (mt xs ys).1 = nO ys ∧ nI (mt xs ys).2 = nO xs := by
 refine mt_ind (M := fun xs ys => nI (mt xs ys).1 = nO ys ∧ nI (mt xs ys).2 = nO xs) ⟨rfl, rfl⟩ ?_ ?_ ?_ ?_ ?_ ?_ _ xs ys (Nat.le_refl _) h
 · intro b xs ys _ ih; simp [mt, nI, nO, ih]
 · intro xs b ys hx _ ih; rw [mt_put _ _ _ hx]; simp [nI, nO, ih]
 all_goals intros; simp_all [mt, rst, lead, nI, nO]
theorem ap_mt {α : Type} (f : UInt8 → α) (xs ys : List U) (h : nI xs = nI ys) : ∀ s : List α, nI xs = s.length → ap f (mt xs ys).2 (ap f xs s) = ap f (mt xs ys).1 (ap f ys s) := by
 refine mt_ind (M := fun xs ys => ∀ s : List α, nI xs = s.length → ap f (mt xs ys).2 (ap f xs s) = ap f (mt xs ys).1 (ap f ys s)) ?_ ?_ ?_ ?_ ?_ ?_ ?_ _ xs ys (Nat.le_refl _) h
 · intro s hs; rfl
 · intro b xs ys _ ih s hs; simp [mt, ap, ih s (by simpa [nI] using hs)]
 · intro xs b ys hx _ ih s hs; rw [mt_put _ _ _ hx]; simp [ap, ih s hs]
 all_goals
  intro xs ys _ ih s hs
  rcases s with _ | ⟨x, s⟩
  · simp [nI] at hs
  · simp [mt, rst, lead, ap, ih s (by simpa [nI] using hs)]
end Go.Proofs.Ytokngfinnieccaa
