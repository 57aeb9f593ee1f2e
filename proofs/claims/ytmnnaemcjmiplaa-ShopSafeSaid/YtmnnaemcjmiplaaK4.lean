/- Structs in boxes: whole rows loaded and stored. A strings.Builder that a call makes itself: written and read. A delta gone through, and two of them: runs of units; plain lists, no program. -/
import Derived.Test.YtmnnaemcjmiplaaK3
import Derived.Deep.Cut
import Derived.StillTailTactics
import Derived.Deep.MidRow
import Derived.Test.YtmnnaemcjmiplaaShelf
import Derived.Lib.Builder
import Derived.Test.YtmnnaemcjmiplaaK2
namespace Go.Proofs.Ytmnnaemcjmiplaa
open Go.ChangeShapes Go.WideShapes Go.RowKit
set_option linter.unusedVariables false
set_option linter.unusedSimpArgs false
set_option maxRecDepth 100000
set_option maxHeartbeats 4000000

theorem Blk.row {w : World} {g : Nat} {t : TypeId} {cs : Array Value} (h : Blk w g t cs) (cs' : Array Value) : Blk (w.setRow g cs') g t cs' := setRow_heap w g cs cs' t (0, 0) h
theorem Blk.farRow {w : World} {g g' : Nat} {t : TypeId} {cs : Array Value} (h : Blk w g t cs) (hne : g ≠ g') (cs' : Array Value) : Blk (w.setRow g' cs') g t cs := (setRow_other w g' g cs' hne).trans h
theorem Only.setRow (w : World) (g : Nat) (cs : Array Value) : Only w (w.setRow g cs) (fun k => k = g) := ⟨rfl, rfl, rfl, by simp, fun k hk hn => setRow_other w g k cs hn⟩
theorem below_setRow {B : Nat} {w w' : World} (h : Below B w w') (g : Nat) (cs : Array Value) (hg : B ≤ g) : Below B w (w'.setRow g cs) :=
  ⟨h.os, h.tape, h.output, by simp; exact h.size, fun k hk => (setRow_other w' g k cs (by omega)).trans (h.block k hk)⟩
/-- a function's end: one result lies in block g -/
theorem row_end1 {fn : Func} {R : Ending → World → Prop} {a : Act} {W : World} {g : Nat} {ty : TypeId} {cs : Array Value} {p : Tmp} (hres : fn.results = #[.cell p ty])
    (hp : a.tmps.getD p undef = .pointer (some ⟨g, 0, none⟩)) (hd : a.defers = []) (hl : (loadVar ty ⟨g, 0, none⟩).run Try.prog W = .ok (.agg cs) W)
    (hR : R (.returned (.agg cs)) W) : bodyPost Try.prog fn R .ret a W := by
  refine bodyPost_ret (v := .agg cs) ?_ hd hR
  have hp' : a.tmps[p]?.getD undef = .pointer (some ⟨g, 0, none⟩) := by simpa using hp
  simp [results, hres, hp', asAddr, hl]
theorem row_end2 {fn : Func} {R : Ending → World → Prop} {a : Act} {W : World} {g : Nat} {ty : TypeId} {cs : Array Value} {p q : Tmp} {u : Value} (hres : fn.results = #[.cell p ty, .tmp q])
    (hp : a.tmps.getD p undef = .pointer (some ⟨g, 0, none⟩)) (hq : a.tmps.getD q undef = u) (hd : a.defers = []) (hl : (loadVar ty ⟨g, 0, none⟩).run Try.prog W = .ok (.agg cs) W)
    (hR : R (.returned (.tuple #[.agg cs, u])) W) : bodyPost Try.prog fn R .ret a W := by
  refine bodyPost_ret (v := .tuple #[.agg cs, u]) ?_ hd hR
  rw [results_cell_tmp hres, hp, hq]
  simp [asAddr, hl]
/-- a whole struct is loaded -/
theorem wpList_load_blk {ops : Array Oper} {rest : List Oper} {o : Oper} {a : Act} {w : World} {Q : Exit → Act → World → Prop} (hgd : o.guard = none) (ty : TypeId) (x : Operand) (ho : o.op = .load ty x)
    (g : Nat) (hx : a.eval x = .pointer (some ⟨g, 0, none⟩)) (cs : Array Value) (hl : (loadVar ty ⟨g, 0, none⟩).run Try.prog w = .ok (.agg cs) w)
    (h : wpList Try.prog ops Q rest (a.put o.dst (.agg cs)) w) : wpList Try.prog ops Q (o :: rest) a w :=
  wpList_plain hgd fun _ hK => by
    unfold Oper.wp execOp
    simp only [ho, hx, Instr.loadAt, Instr.sureAddr, Sem.run_bind, Sem.run_pure, Result.andThen_ok, hl]
    exact hK _ _ h
/-- a whole struct is stored -/
theorem wpList_store_blk {ops : Array Oper} {rest : List Oper} {o : Oper} {a : Act} {w : World} {Q : Exit → Act → World → Prop} (hgd : o.guard = none) (ty : TypeId) (x y : Operand) (ho : o.op = .store ty x y)
    (g : Nat) (cells : Array Value) (hx : a.eval x = .pointer (some ⟨g, 0, none⟩)) (hy : a.eval y = .agg cells)
    (t : TypeId) (old : Array Value) (hg : Blk w g t old) (hi : (Try.prog.info? ty).map (·.size) = some cells.size)
    (hold : old.size = cells.size) (h1 : cells.all (·.oneCell') = true)
    (h : wpList Try.prog ops Q rest (a.put o.dst undef) (w.setRow g cells)) : wpList Try.prog ops Q (o :: rest) a w :=
  wpList_store_row hgd ty x y ho g cells hx hy t old hg hi hold h1 h
/-- a struct is put together -/
theorem wpList_built {ops : Array Oper} {rest : List Oper} {o : Oper} {a : Act} {w : World} {Q : Exit → Act → World → Prop} (hgd : o.guard = none) (t : TypeId) (parts : Array (Nat × Operand)) (ho : o.op = .build t parts) (cells : Array Value)
    (hf : Try.prog.built t (parts.map fun (i, x) => (i, a.eval x)).toList = some cells)
    (h : wpList Try.prog ops Q rest (a.put o.dst (.agg cells)) w) : wpList Try.prog ops Q (o :: rest) a w :=
  wpList_build hgd t parts ho (by rw [hf]; rfl) (by rw [hf]; exact h)
/-- a whole struct is stored, in a region that draws -/
theorem step_store_blk {ops : Array Oper} {o : Oper} {a : Act} {K : Act → World → Prop} {Q : Exit → Act → World → Prop} {E : Prop} {w : World} (hgd : o.guard = none) (ty : TypeId) (x y : Operand) (ho : o.op = .store ty x y)
    (g : Nat) (cells : Array Value) (hx : a.eval x = .pointer (some ⟨g, 0, none⟩)) (hy : a.eval y = .agg cells)
    (t : TypeId) (old : Array Value) (hg : Blk w g t old) (hi : (Try.prog.info? ty).map (·.size) = some cells.size)
    (hold : old.size = cells.size) (h1 : cells.all (·.oneCell') = true)
    (h : K (a.put o.dst undef) (w.setRow g cells)) : if Region.wanted o (yielded ops a.tmps) = true then Oper.wp Try.prog o a w K Q else E := by
  have hw : Region.wanted o (yielded ops a.tmps) = true := by simp [Region.wanted, hgd]
  rw [if_pos hw]
  exact wp_store_row ty x y ho g cells hx hy t old hg hi hold h1 h
/-- a whole struct is loaded, in a region whose tail alone writes -/
theorem wpStill_load_blk {ops : Array Oper} {rest : List Oper} {o : Oper} {a : Act} {w : World} {Q : Act → Prop} (hgd : o.guard = none) (ty : TypeId) (x : Operand) (ho : o.op = .load ty x)
    (g : Nat) (hx : a.eval x = .pointer (some ⟨g, 0, none⟩)) (cs : Array Value) (hl : (loadVar ty ⟨g, 0, none⟩).run Try.prog w = .ok (.agg cs) w)
    (h : wpStill Try.prog ops w Q rest (a.put o.dst (.agg cs))) : wpStill Try.prog ops w Q (o :: rest) a := by
  refine wpStill_step (fun K hK => ?_)
  have hw : Region.wanted o (yielded ops a.tmps) = true := by simp [Region.wanted, hgd]
  rw [if_pos hw]
  unfold Oper.still execOp
  simp only [ho, hx, Instr.loadAt, Instr.sureAddr, Sem.run_bind, Sem.run_pure, Result.andThen_ok, hl, Oper.stillUpon]
  exact ⟨trivial, hK _ h⟩
theorem exec_load_blk {o : Oper} {a : Act} {w : World} (ty : TypeId) (x : Operand) (ho : o.op = .load ty x) (g : Nat) (hx : a.eval x = .pointer (some ⟨g, 0, none⟩)) (cs : Array Value)
    (hl : (loadVar ty ⟨g, 0, none⟩).run Try.prog w = .ok (.agg cs) w) : (execOp a.eval o).run Try.prog w = .ok (.value (.agg cs)) w := by
  unfold execOp
  simp only [ho, hx, Instr.loadAt, Instr.sureAddr, Sem.run_bind, Sem.run_pure, Result.andThen_ok, hl]
theorem wpAnyH_takeD {ops : Array Oper} {Q : Exit → Act → World → Prop} {md : Region.Mode} {S : World → Prop} {i : Nat} (t : Nat) {oi : Oper} {v : Value} {fuel : Nat} {listed : Array Bool} {a : Act} {w : World} (hi : ops[i]? = some oi) (hd : oi.dst = some t)
    (hs : Region.noSelect ops = true) (hf : Region.free md ops listed i = true) (hr : (Region.ready md ops listed).contains i = true)
    (hQ : ∀ c a w, Q (.panic c) (a.put (some t) v) w → Q (.panic c) a w) (hy : YieldsIf Try.prog ops S oi v a) (hS : S w)
    (h : wpAnyH Try.prog md ops Q S fuel (listed.setIfInBounds i true) (a.put (some t) v) w) : wpAnyH Try.prog md ops Q S (fuel + 1) listed a w :=
  wpAnyH_take hi hs hf hr (by rw [hd]; exact hQ) hy hS (by rw [hd]; exact h)
theorem wpOp_enter {ops : Array Oper} {i : Nat} (t : Nat) {o : Oper} {a : Act} {w : World} {K : Act → World → Prop} {Q : Exit → Act → World → Prop} (hi : ops[i]? = some o) (hw : Region.wanted o (yielded ops a.tmps) = true) (hd : o.dst = some t) (f : FuncId) (vs : Array Value)
    (hx : (execOp a.eval o).run Try.prog w = .ok (.enter f vs) w) (v : Value) (R : World → Prop) (hc : Calls Try.prog f vs w (fun e w' => e = .returned v ∧ R w')) (h : ∀ w', R w' → K (a.put (some t) v) w') : wpOp Try.prog ops Q i K a w := by
  unfold wpOp
  simp only [hi, hw, if_true]
  refine .inl ?_
  unfold Oper.wp
  rw [hx]
  simp only [Oper.upon]
  refine hc.mono ?_
  rintro e w' ⟨rfl, hr⟩
  rw [hd]
  exact h _ hr
theorem wpOp_store_blk {ops : Array Oper} {i : Nat} {o : Oper} {a : Act} {w : World} {K : Act → World → Prop} {Q : Exit → Act → World → Prop} (hi : ops[i]? = some o) (hgd : o.guard = none) (hd : o.dst = none) (ty : TypeId) (x y : Operand) (ho : o.op = .store ty x y)
    (g : Nat) (cells : Array Value) (hx : a.eval x = .pointer (some ⟨g, 0, none⟩)) (hy : a.eval y = .agg cells)
    (t : TypeId) (old : Array Value) (hg : Blk w g t old) (hinf : (Try.prog.info? ty).map (·.size) = some cells.size)
    (hold : old.size = cells.size) (h1 : cells.all (·.oneCell') = true)
    (h : K a (w.setRow g cells)) : wpOp Try.prog ops Q i K a w := by
  unfold wpOp
  have hw : Region.wanted o (yielded ops a.tmps) = true := by simp [Region.wanted, hgd]
  simp only [hi, hw, if_true]
  exact .inl (wp_store_row ty x y ho g cells hx hy t old hg hinf hold h1 (by rw [hd]; exact h))
/-- cells in the middle of a row are stored anew -/
def setL : Array Value → Nat → List Value → Array Value
  | cs, _, [] => cs
  | cs, o, v :: r => setL (cs.setIfInBounds o v) (o + 1) r
theorem Blk.setMany {w : World} {g : Nat} {t : TypeId} : ∀ (vs : List Value) (o : Nat) (w : World) (cs : Array Value), Blk w g t cs → Blk (w.setCells g o vs) g t (setL cs o vs)
  | [], o, w, cs, h => h
  | v :: r, o, w, cs, h => Blk.setMany (w := w) r (o + 1) _ _ (h.set_ o v)
theorem Blk.farMany {g g' : Nat} {t : TypeId} {cs : Array Value} (hne : g ≠ g') : ∀ (vs : List Value) (o : Nat) (w : World), Blk w g t cs → Blk (w.setCells g' o vs) g t cs
  | [], o, w, h => h
  | v :: r, o, w, h => Blk.farMany hne r (o + 1) _ (h.far (p := ⟨g', o, none⟩) hne v)
theorem Only.setMany (g : Nat) : ∀ (vs : List Value) (o : Nat) (w : World), Only w (w.setCells g o vs) (fun k => k = g)
  | [], o, w => Only.refl _ _
  | v :: r, o, w => (Only.setSelf w g o v).trans (Only.setMany g r (o + 1) _)
theorem Blk.range {w : World} {g o : Nat} {t : TypeId} {cs : Array Value} {vs : List Value} (h : Blk w g t cs) (hv : ∀ j v, vs[j]? = some v → cs[o + j]? = some v) : w.rangeAt g o vs :=
  fun j v hj => (h.cell (o + j)).trans (hv j v hj)
theorem Blk.there {w : World} {g o n : Nat} {t : TypeId} {cs : Array Value} (h : Blk w g t cs) (hn : o + n ≤ cs.size) : w.there g o n := fun j hj => by
  refine ⟨?_, h.frozen (o + j)⟩
  rw [h.cell, Array.getElem?_eq_getElem (by omega)]
  rfl
theorem setL_mid : ∀ (vs M P R : List Value), vs.length = M.length → setL (P ++ (M ++ R)).toArray P.length vs = (P ++ (vs ++ R)).toArray
  | [], [], P, R, _ => rfl
  | [], _ :: _, P, R, h => by simp at h
  | _ :: _, [], P, R, h => by simp at h
  | v :: vs, m :: M, P, R, h => by
    have e : (P ++ (m :: M ++ R)).toArray.setIfInBounds P.length v = ((P ++ [v]) ++ (M ++ R)).toArray := by
      simp [List.set_append_right]
    have := setL_mid vs M (P ++ [v]) R (by simpa using h)
    rw [setL, e]
    rw [List.length_append, List.length_singleton] at this
    rw [this]
    simp
end Go.Proofs.Ytmnnaemcjmiplaa
namespace Go.Proofs.Ytmnnaemcjmiplaa
open Go.ChangeShapes Go.WideShapes Go.RowKit
set_option linter.unusedVariables false
set_option linter.unusedSimpArgs false
set_option maxRecDepth 100000
set_option maxHeartbeats 4000000

theorem Try.builderSize : (Try.prog.info? 147).map (·.size) = some 2 := by kernel_rfl
theorem Try.builderLies : liesAt Try.prog Try.prog.depth 147 (2 / Try.prog.cellsOf 147) 0 147 1 = true := by kernel_rfl
theorem blk_shape {w : World} {b : Nat} {t : TypeId} {x y : Value} (h : Blk w b t #[x, y]) : w.shape? b = some (t, 2) := by
  unfold Blk at h
  simp [World.shape?, h]
theorem bcheck_fresh (b : Nat) (v : Value) (w : World) (h : Blk w b 147 #[.pointer none, v]) :
    Calls Try.prog 119 #[.pointer (some ⟨b, 0, none⟩)] w fun e w' => e = .returned (.tuple #[]) ∧ w' = w.setCell ⟨b, 0, none⟩ (.pointer (some ⟨b, 0, none⟩)) := by
  obtain ⟨j, hj, hjs⟩ := Option.map_eq_some_iff.1 Try.builderSize
  have hsh := blk_shape h
  have c0 := h.cell 0
  have f0 := h.frozen 0
  have l0 := h.lt
  clear h
  go_enter Try.func119, Try.ntmps119
  go_wp2_with fail
  rw [Lib.run_to_unsafe w ⟨b, 0, none⟩ Try.underlying144 Try.underlying209 hj (by rw [hjs]; decide) hsh (Nat.zero_lt_succ 1)]
  simp only [Result.andThen]
  rw [Oper.upon_value]
  go_wp2_with fail
  rw [run_callFunc_extern Try.func129 (by kernel_rfl) (by kernel_rfl) (by kernel_rfl) (e := Extern.AbiNoEscape.same) (by kernel_rfl)]
  rw [Lib.run_noEscape]
  simp only [Result.andThen]
  rw [Oper.upon_value]
  go_wp2_with fail
  rw [Lib.run_from_unsafe w ⟨b, 0, none⟩ Try.underlying209 Try.underlying144 hj hsh Try.builderLies]
  simp only [Result.andThen]
  rw [Oper.upon_value]
  go_wp2_with fail
  go_end0
  exact ⟨rfl, rfl⟩
theorem bcheck_used (b : Nat) (v : Value) (w : World) (h : Blk w b 147 #[.pointer (some ⟨b, 0, none⟩), v]) :
    Calls Try.prog 119 #[.pointer (some ⟨b, 0, none⟩)] w fun e w' => e = .returned (.tuple #[]) ∧ w' = w := by
  obtain ⟨j, hj, hjs⟩ := Option.map_eq_some_iff.1 Try.builderSize
  have c0 := h.cell 0
  clear h
  go_enter Try.func119, Try.ntmps119
  go_wp2_with fail
  rw [Lib.run_neq_ptr_same w _ Try.underlying144 hj]
  go_wp2_with fail
  go_end0
  exact ⟨rfl, rfl⟩
/-- the builder at block b holds the bytes l -/
def Bd (w : World) (B b : Nat) (l : List UInt8) : Prop := Lib.IsBuilder 147 5 B b (Lib.byteCells l) w
theorem Bd.fresh (w : World) : Bd (w.alloc (.cells #[.pointer none, .slice none 0 0] 147)) w.heap.size w.heap.size [] :=
  .inl ⟨Nat.le_refl _, _, heap_alloc_new w _, World.ownsRow_nil _ _ _ _, by simp [Value.ownBlock]⟩
theorem Bd.fresh_ (w : World) {B : Nat} (hB : B ≤ w.heap.size) : Bd (w.alloc (.cells #[.pointer none, .slice none 0 0] 147)) B w.heap.size [] :=
  .inl ⟨hB, _, heap_alloc_new w _, World.ownsRow_nil _ _ _ _, by simp [Value.ownBlock]⟩
/-- other blocks, but rows of bytes, stand -/
def BK (b : Nat) (w w' : World) : Prop := ∀ g t cs, Blk w g t cs → t ≠ 5 → g ≠ b → Blk w' g t cs
theorem BK.trans {b : Nat} {w w' w'' : World} (h : BK b w w') (h' : BK b w' w'') : BK b w w'' := fun g t cs h1 h2 h3 => h' g t cs (h g t cs h1 h2 h3) h2 h3
theorem bcheck_any (B b : Nat) (bs : List Value) (w : World) (h : Lib.IsBuilder 147 5 B b bs w) :
    Calls Try.prog 119 #[.pointer (some ⟨b, 0, none⟩)] w fun e w' => e = .returned (.tuple #[]) ∧ Lib.BuilderAt 147 5 B b (.pointer (some ⟨b, 0, none⟩)) bs w' ∧ Below B w w' ∧ BK b w w' := by
  rcases h with h | h
  · obtain ⟨hB, v, hbk, ho, hne⟩ := h
    refine (bcheck_fresh b v w hbk).mono ?_
    rintro e w' ⟨rfl, rfl⟩
    exact ⟨rfl, Lib.BuilderAt.used ⟨hB, v, hbk, ho, hne⟩ _, (Below.refl B w).setCell (p := ⟨b, 0, none⟩) hB _, fun g t cs h1 h2 h3 => h1.far h3 _⟩
  · obtain ⟨hB, v, hbk, ho, hne⟩ := h
    refine (bcheck_used b v w hbk).mono ?_
    rintro e w' ⟨rfl, rfl⟩
    exact ⟨rfl, ⟨hB, v, hbk, ho, hne⟩, Below.refl B _, fun g t cs h1 h2 h3 => h1⟩
theorem Try.info_u8b : (Try.prog.info? 5).map (fun i => (i.zero, i.size, i.bytes)) = some (some (.int .u8 0), 1, 1) := by kernel_rfl
theorem bwrite_any (B b : Nat) (l : List UInt8) (s : ByteArray) (w : World) (h : Bd w B b l) (hlen : l.length + s.size ≤ 140737488355328) (hBw : B ≤ w.heap.size) :
    Calls Try.prog 87 #[.pointer (some ⟨b, 0, none⟩), .string s] w fun e w' => e = .returned (.tuple #[.int .i64 s.size, .nilIface]) ∧ Bd w' B b (l ++ s.data.toList) ∧ Below B w w' ∧ BK b w w' := by
  obtain ⟨i0, hi, hz0, hz1, hz2⟩ := info_parts Try.info_u8b
  have Hh := Lib.hid h
  have hs : s.size ≤ 9223372036854775807 := by omega
  clear h
  have hll : (Lib.byteCells l).length = l.length := by simp [Lib.byteCells]
  go_enter Try.func87, Try.ntmps87
  go_wp2_with fail
  refine (bcheck_any B b _ _ Hh.out).mono ?_
  rintro e w1 ⟨rfl, ⟨hB, v, hbk, hown, hne⟩, hb1, hbk1⟩
  have Hbk1 := Lib.hid hbk1
  clear hbk1
  have kb : Blk w1 b 147 #[.pointer (some ⟨b, 0, none⟩), v] := hbk
  have c0 := kb.cell 0
  have c1 := kb.cell 1
  have l1 := kb.lt
  have hBw1 : B ≤ w1.heap.size := by have := hb1.size; omega
  have Kb := Lib.hid kb
  have Hown := Lib.hid hown
  clear kb hbk hown
  go_wp2_with (at_builtin; refine Lib.wpList_append_own_string _ rfl _ _ 145 9 rfl B 5 i0 Try.underlying145 Try.underlying9 hi hz0 hz1 hz2 _ _ _ rfl Hown.out s rfl ?c3 ?c4 ?c5 ?_)
  case c3 => unfold maxLen; omega
  case c4 => omega
  case c5 => exact hBw1
  intro v' w2 hown' hgrow _
  have kb2 := Kb.out.grown hgrow (Ne.symm hne)
  have hge := own_ge Hown.out
  have hne2 : v'.ownBlock ≠ some b := own_blk_ne (t := 147) hown' kb2 (by decide)
  have hb2 : Below B w1 w2 := below_grown hgrow hBw1 hge
  have d0 := kb2.cell 0
  have d1 := kb2.cell 1
  have f1 := kb2.frozen 1
  have l2 := kb2.lt
  obtain ⟨ao, n', cap, rfl⟩ : ∃ ao n' cap, v' = .slice ao n' cap := by
    rcases hown'.2 with ⟨rfl, _⟩ | ⟨g, cap, cur, rfl, _⟩
    · exact ⟨_, _, _, rfl⟩
    · exact ⟨_, _, _, rfl⟩
  have Kb2 := Lib.hid kb2
  have Hown2 := Lib.hid hown'
  have hbelow := hb1.trans hb2
  have Hbk2 : Hid (BK b w1 w2) := Lib.hid fun g t cs h1 h2 h3 => h1.grown hgrow (own_blk_ne (t := t) Hown.out h1 (Ne.symm h2)).symm
  clear kb2 hown' hgrow hb1 hb2 c0 c1
  go_wp2_with fail
  go_ret2
  refine ⟨rfl, ?_, hbelow.trans ((Below.refl B w2).setCell (p := ⟨b, 1, none⟩) hB _), (Hbk1.out.trans Hbk2.out).trans fun g t cs h1 h2 h3 => h1.far h3 _⟩
  refine .inr ⟨hB, _, Kb2.out.set_ 1 _, ?_, hne2⟩
  have h1 := own_only (w' := w2.setCell ⟨b, 1, none⟩ (.slice ao n' cap)) (S := fun k => k = b) Hown2.out ⟨rfl, rfl, rfl, by simp [World.setCell], fun k _ hs => Below.heap_setCell w2 _ _ k fun e => hs e⟩ fun k hk e => hne2 (by rw [hk, e])
  have e1 : Lib.byteCells l ++ Lib.strCells s = Lib.byteCells (l ++ s.data.toList) := by simp [Lib.byteCells, Lib.strCells]
  rw [e1] at h1
  have e2 : (Lib.byteCells (l ++ s.data.toList)).length = l.length + s.size := by simp [Lib.byteCells]
  rw [e2]
  exact h1
theorem bstring_any (B b : Nat) (l : List UInt8) (w : World) (h : Bd w B b l) (hBw : B ≤ w.heap.size) :
    Calls Try.prog 88 #[.pointer (some ⟨b, 0, none⟩)] w fun e w' => e = .returned (.string ⟨l.toArray⟩) ∧ Below B w w' := Go.Proofs.Try.Builder_String_any B b l w h hBw
theorem Bd.alloc {w : World} {B b : Nat} {l : List UInt8} (h : Bd w B b l) (o : Obj) : Bd (w.alloc o) B b l := by
  rcases h with ⟨hB, v, hbk, ho, hne⟩ | ⟨hB, v, hbk, ho, hne⟩
  · exact .inl ⟨hB, v, Blk.alloc (t := 147) hbk o, ho.alloc o, hne⟩
  · exact .inr ⟨hB, v, Blk.alloc (t := 147) hbk o, ho.alloc o, hne⟩
end Go.Proofs.Ytmnnaemcjmiplaa
namespace Go.Proofs.Ytmnnaemcjmiplaa
set_option linter.unusedVariables false
set_option linter.unusedSimpArgs false

/-- what is left of a delta of whose first part 'used' have been taken -/
def rem (l : List Pt) (used : Nat) : List U := (units l).drop used
def adv : List Pt → Nat → Nat → List Pt × Nat
  | p :: r, used, n => if used + n = lenP p then (r, 0) else (p :: r, used + n)
  | [], used, _ => ([], used)
/-- how a walker stands -/
def WOk (l : List Pt) (used : Nat) : Prop := Fine l ∧ (l = [] → used = 0) ∧ ∀ p r, l = p :: r → used < lenP p
theorem rem_nil : rem [] 0 = [] := rfl
theorem rem_zero (l : List Pt) : rem l 0 = units l := rfl
theorem rem_cons {p : Pt} {r : List Pt} {used : Nat} (h : Shape p) (hu : used ≤ lenP p) : rem (p :: r) used = (up p).drop used ++ units r := by
  unfold rem
  rw [units_cons, List.drop_append_of_le_length (by rw [up_len p h]; exact hu)]
theorem rem_adv {p : Pt} {r : List Pt} {used n : Nat} (h : Shape p) (hu : used + n ≤ lenP p) : rem (adv (p :: r) used n).1 (adv (p :: r) used n).2 = (rem (p :: r) used).drop n := by
  simp only [adv]
  split
  · rename_i e
    rw [rem_cons h (by omega), rem_zero, List.drop_append, List.drop_eq_nil_of_le (by rw [List.length_drop, up_len p h]; omega)]
    rw [List.length_drop, up_len p h, show n - (lenP p - used) = 0 by omega]
    simp
  · unfold rem
    rw [List.drop_drop]
theorem wok_adv {p : Pt} {r : List Pt} {used n : Nat} (h : WOk (p :: r) used) (hu : used + n ≤ lenP p) : WOk (adv (p :: r) used n).1 (adv (p :: r) used n).2 := by
  obtain ⟨hf, _, h2⟩ := h
  simp only [adv]
  split
  · refine ⟨fun q hq => hf q (by simp [hq]), fun _ => rfl, fun q s e => ?_⟩
    have e' : r = q :: s := e
    have hs := hf q (by simp [e'])
    show 0 < lenP q
    unfold lenP
    rcases hs with ⟨h1, h2, h3⟩ | ⟨h1, h2, h3⟩
    · rw [if_neg (by omega)]; omega
    · rw [if_pos h1]; omega
  · rename_i hne
    refine ⟨hf, by simp, fun q s e => ?_⟩
    have e' : p = q := by injection e
    subst e'
    have := h2 p r rfl
    show used + n < lenP p
    omega
theorem rem_ne {l : List Pt} {used : Nat} (h : WOk l used) (hl : l ≠ []) : rem l used ≠ [] := by
  rcases l with _ | ⟨p, r⟩
  · exact absurd rfl hl
  · intro e
    have h1 := h.2.2 p r rfl
    have h2 := congrArg List.length e
    rw [rem_cons (h.1 p (by simp)) (by omega), List.length_append, List.length_drop, up_len p (h.1 p (by simp))] at h2
    simp at h2
    omega
theorem rem_keep {r : List Pt} {N : Int} {t : ByteArray} {used n : Nat} (h : Shape (1, N, t)) (hu : used + n ≤ N.toNat) :
    rem ((1, N, t) :: r) used = List.replicate n none ++ rem (adv ((1, N, t) :: r) used n).1 (adv ((1, N, t) :: r) used n).2 := by
  have hl : lenP ((1, N, t) : Pt) = N.toNat := by simp [lenP]
  rw [rem_adv h (by rw [hl]; exact hu), rem_cons h (by rw [hl]; omega)]
  simp only [up, if_true, List.drop_replicate]
  rw [show N.toNat - used = n + (N.toNat - used - n) by omega, ← List.replicate_append_replicate, List.append_assoc, List.drop_left' (by simp)]
theorem rem_cut {r : List Pt} {N : Int} {t : ByteArray} {used n : Nat} (h : Shape (3, N, t)) (hu : used + n ≤ N.toNat) :
    rem ((3, N, t) :: r) used = List.replicate n (some none) ++ rem (adv ((3, N, t) :: r) used n).1 (adv ((3, N, t) :: r) used n).2 := by
  have hl : lenP ((3, N, t) : Pt) = N.toNat := by simp [lenP]
  rw [rem_adv h (by rw [hl]; exact hu), rem_cons h (by rw [hl]; omega)]
  have e : up ((3, N, t) : Pt) = List.replicate N.toNat (some none) := rfl
  rw [e, List.drop_replicate]
  rw [show N.toNat - used = n + (N.toNat - used - n) by omega, ← List.replicate_append_replicate, List.append_assoc, List.drop_left' (by simp)]
theorem pu_extract (t : ByteArray) (a b : Nat) : pu (t.extract a b) = ((pu t).take b).drop a := by
  unfold pu
  have e : (t.extract a b).data.toList = (t.data.toList.take b).drop a := by
    rw [ByteArray.data_extract, Array.toList_extract, List.extract_eq_take_drop, List.drop_take]
  rw [e, List.map_drop, List.map_take]
theorem rem_put {r : List Pt} {N : Int} {t : ByteArray} {used n : Nat} (h : Shape (2, N, t)) (hu : used + n ≤ t.size) :
    rem ((2, N, t) :: r) used = pu (t.extract used (used + n)) ++ rem (adv ((2, N, t) :: r) used n).1 (adv ((2, N, t) :: r) used n).2 := by
  have hl : lenP ((2, N, t) : Pt) = t.size := by simp [lenP]
  have hp : (pu t).length = t.size := by simp [pu]
  rw [rem_adv h (by rw [hl]; exact hu), rem_cons h (by rw [hl]; omega)]
  have e : up ((2, N, t) : Pt) = pu t := rfl
  rw [e, pu_extract]
  have e2 : (pu t).drop used = ((pu t).take (used + n)).drop used ++ (pu t).drop (used + n) := by
    conv => lhs; rw [← List.take_append_drop (used + n) (pu t)]
    rw [List.drop_append_of_le_length (by rw [List.length_take]; omega)]
  rw [e2, List.append_assoc, List.drop_left' (by rw [List.length_drop, List.length_take]; omega)]

theorem cmp_cuts (n : Nat) (xs ys : List U) : cmp (List.replicate n (some none) ++ xs) ys = List.replicate n (some none) ++ cmp xs ys := by
  induction n with
  | zero => rfl
  | succ n ih => rw [List.replicate_succ]; simp only [List.cons_append, cmp]; rw [ih]
theorem cmp_puts (s : List UInt8) (xs ys : List U) (h : ∀ r, xs ≠ some none :: r) : cmp xs (s.map (fun b => some (some b)) ++ ys) = s.map (fun b => some (some b)) ++ cmp xs ys := by
  induction s with
  | nil => rfl
  | cons b s ih => simp only [List.map_cons, List.cons_append]; rw [cmp_put _ _ _ h, ih]
theorem cmp_kk (n : Nat) (xs ys : List U) : cmp (List.replicate n none ++ xs) (List.replicate n none ++ ys) = List.replicate n none ++ cmp xs ys := by
  induction n with
  | zero => rfl
  | succ n ih => rw [List.replicate_succ]; simp only [List.cons_append, cmp, lead, rst, List.nil_append]; rw [ih]
theorem cmp_kc (n : Nat) (xs ys : List U) : cmp (List.replicate n none ++ xs) (List.replicate n (some none) ++ ys) = List.replicate n (some none) ++ cmp xs ys := by
  induction n with
  | zero => rfl
  | succ n ih => rw [List.replicate_succ, List.replicate_succ]; simp only [List.cons_append, cmp, lead, rst, List.nil_append]; rw [ih]
theorem cmp_pk (s : List UInt8) (xs ys : List U) : cmp (s.map (fun b => some (some b)) ++ xs) (List.replicate s.length none ++ ys) = s.map (fun b => some (some b)) ++ cmp xs ys := by
  induction s with
  | nil => rfl
  | cons b s ih => rw [List.length_cons, List.replicate_succ]; simp only [List.map_cons, List.cons_append, cmp, lead, rst, List.nil_append]; rw [ih]
theorem cmp_pc (s : List UInt8) (xs ys : List U) : cmp (s.map (fun b => some (some b)) ++ xs) (List.replicate s.length (some none) ++ ys) = cmp xs ys := by
  induction s with
  | nil => rfl
  | cons b s ih => rw [List.length_cons, List.replicate_succ]; simp only [List.map_cons, List.cons_append, cmp, lead, rst, List.nil_append]; rw [ih]
theorem mt_xputs (s : List UInt8) (xs ys : List U) : mt (s.map (fun b => some (some b)) ++ xs) ys = (s.map (fun b => some (some b)) ++ (mt xs ys).1, List.replicate s.length none ++ (mt xs ys).2) := by
  induction s with
  | nil => rfl
  | cons b s ih => simp only [List.map_cons, List.cons_append, mt, List.length_cons, List.replicate_succ]; rw [ih]
theorem mt_yputs (s : List UInt8) (xs ys : List U) (h : ∀ c r, xs ≠ some (some c) :: r) : mt xs (s.map (fun b => some (some b)) ++ ys) = (List.replicate s.length none ++ (mt xs ys).1, s.map (fun b => some (some b)) ++ (mt xs ys).2) := by
  induction s with
  | nil => rfl
  | cons b s ih => simp only [List.map_cons, List.cons_append, List.length_cons, List.replicate_succ]; rw [mt_put _ _ _ h, ih]
theorem mt_kk (n : Nat) (xs ys : List U) : mt (List.replicate n none ++ xs) (List.replicate n none ++ ys) = (List.replicate n none ++ (mt xs ys).1, List.replicate n none ++ (mt xs ys).2) := by
  induction n with
  | zero => rfl
  | succ n ih => rw [List.replicate_succ]; simp only [List.cons_append, mt, lead, rst, List.nil_append, List.map_nil]; rw [ih]
theorem mt_kc (n : Nat) (xs ys : List U) : mt (List.replicate n none ++ xs) (List.replicate n (some none) ++ ys) = ((mt xs ys).1, List.replicate n (some none) ++ (mt xs ys).2) := by
  induction n with
  | zero => rfl
  | succ n ih => rw [List.replicate_succ, List.replicate_succ]; simp only [List.cons_append, mt, lead, rst, List.nil_append, List.map_nil]; rw [ih]
theorem mt_ck (n : Nat) (xs ys : List U) : mt (List.replicate n (some none) ++ xs) (List.replicate n none ++ ys) = (List.replicate n (some none) ++ (mt xs ys).1, (mt xs ys).2) := by
  induction n with
  | zero => rfl
  | succ n ih => rw [List.replicate_succ, List.replicate_succ]; simp only [List.cons_append, mt, lead, rst, List.nil_append, List.map_nil]; rw [ih]
theorem mt_cc (n : Nat) (xs ys : List U) : mt (List.replicate n (some none) ++ xs) (List.replicate n (some none) ++ ys) = mt xs ys := by
  induction n with
  | zero => rfl
  | succ n ih => rw [List.replicate_succ]; simp only [List.cons_append, mt, lead, rst, List.nil_append, List.map_nil]; rw [ih]
theorem len_sizes : ∀ us : List U, us.length ≤ nI us + nO us
  | [] => Nat.le_refl _
  | none :: us => by have := len_sizes us; simp only [List.length_cons, nI, nO]; omega
  | some none :: us => by have := len_sizes us; simp only [List.length_cons, nI, nO]; omega
  | some (some b) :: us => by have := len_sizes us; simp only [List.length_cons, nI, nO]; omega
end Go.Proofs.Ytmnnaemcjmiplaa
