/- Contracts of part.Maker's methods. Structs in boxes: whole rows loaded and stored. A strings.Builder that a call makes itself: written and read. A delta gone through, and two of them: runs of units; plain lists, no program. Laws on deltas as units: right ones, compositions, turns; plain lists, no program. -/
import Derived.Test.YtokngfinnieccaaO2
import Derived.Deep.RegionLaw
import Derived.Deep.Cut
import Derived.StillTailTactics
import Derived.Deep.MidRow
import Derived.Test.YtokngfinnieccaaShelf
import Derived.Lib.Builder
namespace Go.Proofs.Ytokngfinnieccaa
open Go.ChangeShapes Go.WideShapes Go.RowKit
set_option linter.unusedVariables false
set_option linter.unusedSimpArgs false
set_option maxRecDepth 100000
set_option maxHeartbeats 4000000
def OwnP (w : World) (B : Nat) (v : Value) (l : List Pt) : Prop := w.ownsRow B 88 3 v l.length (pc l)
theorem Try.info_part : (Try.prog.info? 88).map (fun i => (i.zero, i.size, i.bytes)) = some (some (.agg #[.int .i64 0, .int .i64 0, .string ⟨#[]⟩]), 3, 32) := by kernel_rfl
theorem pc_append (a b : List Pt) : pc (a ++ b) = pc a ++ pc b := by simp [pc]
theorem OwnP.nil (w : World) (B : Nat) : OwnP w B (.slice none 0 0) [] := World.ownsRow_nil _ _ _ _
theorem OwnP.below {w w' : World} {B : Nat} {v : Value} {l : List Pt} (h : OwnP w B v l) (hb : Below w.heap.size w w') : OwnP w' B v l := own_below h hb
theorem OwnP.rd {w : World} {B : Nat} {v : Value} {l : List Pt} (h : OwnP w B v l) (ht : ∀ p ∈ l, p.2.2.size ≤ 140737488351232) : ∃ A c, v = .slice A l.length c ∧ RdP w w.heap.size A l.length c l := by
 obtain ⟨A, c, e, hr⟩ := Rd.own h
 exact ⟨A, c, e, rfl, hr, ht⟩
theorem OwnP.form {w : World} {B : Nat} {v : Value} {l : List Pt} (h : OwnP w B v l) : ∃ A c, v = .slice A l.length c := by
 rcases h.2 with ⟨rfl, h0⟩ | ⟨g, cap, cur, rfl, _⟩
 · exact ⟨none, 0, by rw [h0]⟩
 · exact ⟨_, _, rfl⟩
theorem OwnP.form_ {w : World} {B n : Nat} {v : Value} {l : List Pt} (h : OwnP w B v l) (hn : l.length = n) : ∃ A c, v = .slice A n c := hn ▸ h.form
theorem wpList_app_part {ops : Array Oper} {rest : List Oper} {o : Oper} {a : Act} {Q : Exit → Act → World → Prop} (w : World) (hgd : o.guard = none) (s x : Operand)
 (ho : o.op = .call { callee := .builtin .append, args := #[s, x], argTypes := #[25, 25] })
 (B : Nat) (v : Value) (l : List Pt) (hs : a.eval s = v) (hown : OwnP w B v l)
 (k n : Int) (t : ByteArray) (c : Nat) (hx : a.eval x = .slice (some ⟨w.heap.size, 0, none⟩) 1 c)
 (hn : l.length ≤ 100000000) (hB : B ≤ w.heap.size)
 (h : ∀ v' w', OwnP w' B v' (l ++ [(k, n, t)]) → Below B w w' → w.grownBy w' v.ownBlock → (v'.ownBlock = v.ownBlock ∨ v'.ownBlock = some (w.heap.size + 1)) → wpList Try.prog ops Q rest (a.put o.dst v') w') :
 wpList Try.prog ops Q (o :: rest) a (w.alloc (.cells #[.int .i64 k, .int .i64 n, .string t] 88)) := by
 obtain ⟨i0, hi, hz0, hz1, hz2⟩ := info_parts Try.info_part
 refine wpList_app1 w hgd s x 25 ho B 88 i0 _ 3 32 Try.underlying25 hi hz0 hz1 hz2 rfl (by omega) (by omega) v _ _ hs hown _ c hx rfl (by simp [Value.oneCell']) hn hB ?_
 intro v' w' h1 h2 h3 h4
 exact h v' w' (by unfold OwnP; rw [pc_append, List.length_append]; exact h1) h2 h3 h4
theorem step_app_part {ops : Array Oper} {o : Oper} {a : Act} {K : Act → World → Prop} {Q : Exit → Act → World → Prop} {E : Prop} (w : World) (hgd : o.guard = none) (s x : Operand)
 (ho : o.op = .call { callee := .builtin .append, args := #[s, x], argTypes := #[25, 25] })
 (B : Nat) (v : Value) (l : List Pt) (hs : a.eval s = v) (hown : OwnP w B v l)
 (k n : Int) (t : ByteArray) (c : Nat) (hx : a.eval x = .slice (some ⟨w.heap.size, 0, none⟩) 1 c)
 (hn : l.length ≤ 100000000) (hB : B ≤ w.heap.size)
 (h : ∀ v' w', OwnP w' B v' (l ++ [(k, n, t)]) → Below B w w' → w.grownBy w' v.ownBlock → (v'.ownBlock = v.ownBlock ∨ v'.ownBlock = some (w.heap.size + 1)) → K (a.put o.dst v') w') :
 if Region.wanted o (yielded ops a.tmps) = true then Oper.wp Try.prog o a (w.alloc (.cells #[.int .i64 k, .int .i64 n, .string t] 88)) K Q else E := by
 obtain ⟨i0, hi, hz0, hz1, hz2⟩ := info_parts Try.info_part
 refine step_append_any _ hgd s x 25 ho B 88 i0 _ 3 32 Try.underlying25 hi hz0 hz1 hz2 rfl (by omega) v _ _ hs (hown.alloc _) (w.heap.size + 1) _ 1 c [.int .i64 k, .int .i64 n, .string t] hx ?_ (by simp [Value.oneCell']) (by simp only [maxLen]; omega) (by omega) (by simp; omega) ?_
 · refine ⟨by simp, fun _ => ⟨_, rfl, by simp, fun j u hj => ?_⟩⟩
   have e1 : (w.alloc (.cells #[.int .i64 k, .int .i64 n, .string t] 88)).heap[w.heap.size]? = some (.cells #[.int .i64 k, .int .i64 n, .string t] 88) := heap_alloc_new w _
   rw [add0, cell_of_row _ _ j _ _ _ e1]
   simpa using hj
 · intro v' w' h2 h3 h4
   have hg := grown_unalloc h3
   exact h v' w' (by unfold OwnP; rw [pc_append, List.length_append]; exact h2) (below_grown hg hB (own_ge hown)) hg (by simpa using h4)
theorem step_app_drew {ops : Array Oper} {o : Oper} {a : Act} {K : Act → World → Prop} {Q : Exit → Act → World → Prop} {E : Prop} (w : World) (hgd : o.guard = none) (s x : Operand)
 (ho : o.op = .call { callee := .builtin .append, args := #[s, x], argTypes := #[25, 25] })
 (B : Nat) (v : Value) (l : List Pt) (hs : a.eval s = v) (hown : OwnP w B v l)
 (k n : Int) (t : ByteArray) (c : Nat) (hx : a.eval x = .slice (some ⟨w.heap.size, 0, none⟩) 1 c)
 (hn : l.length ≤ 100000000) (hB : B ≤ w.heap.size)
 (h : ∀ v' w', OwnP w' B v' (l ++ [(k, n, t)]) → Below B w w' → w.grownBy w' v.ownBlock → (v'.ownBlock = v.ownBlock ∨ v'.ownBlock = some (w.heap.size + 1)) → K (a.put o.dst v') w') :
 if Region.wanted o (yielded ops a.tmps) = true then Oper.wp Try.prog o a ((w.alloc (.cells #[.int .i64 k, .int .i64 n, .string t] 88)).drew) K Q else E :=
 step_app_part w.drew hgd s x ho B v l hs hown k n t c hx hn hB fun v' w' h1 h2 h3 h4 =>
  h v' w' h1 ⟨h2.os, h2.tape, h2.output, h2.size, h2.block⟩ ⟨h3.os, h3.tape, h3.output, h3.size, h3.block⟩ h4
def Only (w w' : World) (S : Nat → Prop) : Prop := w'.os = w.os ∧ w'.tape = w.tape ∧ w'.output = w.output ∧ w.heap.size ≤ w'.heap.size ∧ ∀ k, k < w.heap.size → ¬ S k → w'.heap[k]? = w.heap[k]?
section
variable {w w' w'' : World} {S T : Nat → Prop}
theorem Only.refl (w : World) (S : Nat → Prop) : Only w w S := ⟨rfl, rfl, rfl, Nat.le_refl _, fun _ _ _ => rfl⟩
theorem Only.trans (h : Only w w' S) (h' : Only w' w'' S) : Only w w'' S :=
 ⟨h'.1.trans h.1, h'.2.1.trans h.2.1, h'.2.2.1.trans h.2.2.1, Nat.le_trans h.2.2.2.1 h'.2.2.2.1, fun k hk hs => (h'.2.2.2.2 k (Nat.lt_of_lt_of_le hk h.2.2.2.1) hs).trans (h.2.2.2.2 k hk hs)⟩
theorem Only.mono (h : Only w w' S) (hST : ∀ k, k < w.heap.size → S k → T k) : Only w w' T := ⟨h.1, h.2.1, h.2.2.1, h.2.2.2.1, fun k hk hs => h.2.2.2.2 k hk fun hS => hs (hST k hk hS)⟩
theorem Only.below {B : Nat} (h : Only w w' S) (hB : B ≤ w.heap.size) (hS : ∀ k, S k → B ≤ k) : Below B w w' :=
 ⟨h.1, h.2.1, h.2.2.1, h.2.2.2.1, fun k hk => h.2.2.2.2 k (by omega) fun hs => by have := hS k hs; omega⟩
theorem Only.of_below (h : Below w.heap.size w w') : Only w w' S := ⟨h.os, h.tape, h.output, h.size, fun k hk _ => h.block k hk⟩
theorem Only.of_grown {row : Option Nat} (h : w.grownBy w' row) : Only w w' (fun k => row = some k) := ⟨h.os, h.tape, h.output, h.size, fun k hk hs => h.block k hk fun e => hs e.symm⟩
theorem Only.alloc (w : World) (o : Obj) : Only w (w.alloc o) S := ⟨rfl, rfl, rfl, by simp, fun k hk _ => Below.heap_alloc w o k hk⟩
theorem Only.setCell (w : World) (p : Addr) (u : Value) (hp : S p.block) : Only w (w.setCell p u) S :=
 ⟨rfl, rfl, rfl, by simp [World.setCell], fun k _ hs => Below.heap_setCell w p u k fun e => hs (e ▸ hp)⟩
theorem Only.setSelf (w : World) (g i : Nat) (u : Value) : Only w (w.setCell ⟨g, i, none⟩ u) (fun k => k = g) := Only.setCell _ _ _ rfl
theorem Only.drew (w : World) : Only w w.drew S := ⟨rfl, rfl, rfl, Nat.le_refl _, fun _ _ _ => rfl⟩
theorem Only.drewN (w : World) (n : Nat) : Only w (w.drewN n) S := ⟨rfl, rfl, rfl, Nat.le_refl _, fun _ _ _ => rfl⟩
theorem Blk.only {g : Nat} {t : TypeId} {cs : Array Value} (h : Blk w g t cs) (ho : Only w w' S) (hg : ¬ S g) : Blk w' g t cs := (ho.2.2.2.2 g h.lt hg).trans h
theorem own_only {base : Nat} {e : TypeId} {size n : Nat} {v : Value} {xs : List Value} (h : w.ownsRow base e size v n xs) (ho : Only w w' S) (hv : ∀ k, v.ownBlock = some k → ¬ S k) : w'.ownsRow base e size v n xs := by
 have hlt := own_lt h
 obtain ⟨h1, h2⟩ := h
 refine ⟨h1, ?_⟩
 rcases h2 with h2 | ⟨g, cap, cur, rfl, hg, hh, hr⟩
 · exact .inl h2
 · exact .inr ⟨g, cap, cur, rfl, hg, by rw [ho.2.2.2.2 g (hlt g rfl) (hv g rfl)]; exact hh, hr⟩
end
def MkS (w : World) (B g : Nat) (ob : Option Nat) (o : List Pt) (p : ByteArray) (c : Int) : Prop := ∃ v, Blk w g 105 #[v, .string p, .int .i64 c] ∧ OwnP w B v o ∧ v.ownBlock = ob
def Mk (w : World) (B g : Nat) (ob : Option Nat) (us : List U) : Prop := ∃ o p c, MkS w B g ob o p c ∧ MRep us o p c
def MFr (w w' : World) (g : Nat) (ob ob' : Option Nat) : Prop := Only w w' (fun k => k = g ∨ ob = some k) ∧ (ob' = ob ∨ ∀ k, ob' = some k → w.heap.size ≤ k)
theorem len_cz (us : List U) : (cz us).length = us.length := by
 have hi : ∀ us : List U, (insC us).length = us.length + 1 := by
  intro us; induction us with
  | nil => rfl
  | cons u us ih => rcases u with _ | _ | x <;> simp [insC, ih]
 induction us with
 | nil => rfl
 | cons u us ih => rcases u with _ | _ | x <;> simp [cz, ih, hi]
theorem len_addU (u : U) (l : List Pt) : (addU u l).length ≤ l.length + 1 := by
 rcases u with _ | _ | x <;> rcases l with _ | ⟨p, l⟩ <;> simp only [addU] <;> (try split) <;> simp
theorem len_grp : ∀ us : List U, (grp us).length ≤ us.length
 | [] => Nat.le_refl _
 | u :: us => by have := len_addU u (grp us); have := len_grp us; simp only [grp, List.length_cons]; omega
theorem len_units : ∀ l : List Pt, Fine l → ∀ p ∈ l, lenP p ≤ (units l).length
 | q :: l, h, p, hp => by
   rw [units_cons, List.length_append]
   rcases List.mem_cons.1 hp with rfl | hp
   · rw [up_len p (h p (by simp))]; omega
   · have := len_units l (fun x hx => h x (by simp [hx])) p hp; omega
theorem MRep.bounds {us : List U} {o : List Pt} {p : ByteArray} {c : Int} (h : MRep us o p c) : o.length ≤ us.length ∧ p.size ≤ us.length ∧ 0 ≤ c ∧ c ≤ us.length ∧ Fine o ∧ ∀ q ∈ o, lenP q ≤ us.length := by
 obtain ⟨w, rfl, hw, he, hc⟩ := h
 have hl := congrArg List.length he
 simp only [len_cz, List.length_append, pu, cu, List.length_map, List.length_replicate, bs_len] at hl
 have := len_grp w
 refine ⟨by omega, by omega, hc, by omega, fine_grp w, fun q hq => ?_⟩
 have := len_units (grp w) (fine_grp w) q hq
 rw [units_grp] at this
 omega
theorem Blk.row {w : World} {g : Nat} {t : TypeId} {cs : Array Value} (h : Blk w g t cs) (cs' : Array Value) : Blk (w.setRow g cs') g t cs' := setRow_heap w g cs cs' t (0, 0) h
theorem Only.setRow (w : World) (g : Nat) (cs : Array Value) : Only w (w.setRow g cs) (fun k => k = g) := ⟨rfl, rfl, rfl, by simp, fun k hk hn => setRow_other w g k cs hn⟩
theorem below_setRow {B : Nat} {w w' : World} (h : Below B w w') (g : Nat) (cs : Array Value) (hg : B ≤ g) : Below B w (w'.setRow g cs) :=
 ⟨h.os, h.tape, h.output, by simp; exact h.size, fun k hk => (setRow_other w' g k cs (by omega)).trans (h.block k hk)⟩
theorem row_end1 {fn : Func} {R : Ending → World → Prop} {a : Act} {W : World} {g : Nat} {ty : TypeId} {cs : Array Value} {p : Tmp} (hres : fn.results = #[.cell p ty])
 (hp : a.tmps.getD p undef = .pointer (some ⟨g, 0, none⟩)) (hd : a.defers = []) (hl : (loadVar ty ⟨g, 0, none⟩).run Try.prog W = .ok (.agg cs) W)
 (hR : R (.returned (.agg cs)) W) : bodyPost Try.prog fn R .ret a W := by
 refine bodyPost_ret (v := .agg cs) ?_ hd hR
 have hp' : a.tmps[p]?.getD undef = .pointer (some ⟨g, 0, none⟩) := by simpa using hp
 simp [results, hres, hp', asAddr, hl]
theorem row_end2 {fn : Func} {R : Ending → World → Prop} {a : Act} {W : World} {g : Nat} {ty : TypeId} {cs : Array Value} {p q : Tmp} {u : Value} (hres : fn.results = #[.cell p ty, .tmp q])
 (hp : a.tmps.getD p undef = .pointer (some ⟨g, 0, none⟩)) (hq : a.tmps.getD q undef = u) (hd : a.defers = []) (hl : (loadVar ty ⟨g, 0, none⟩).run Try.prog W = .ok (.agg cs) W)
 (hR : R (.returned (.tuple #[.agg cs, u])) W) : bodyPost Try.prog fn R .ret a W := by
 refine bodyPost_ret (v := .tuple #[.agg cs, u]) ?_ hd hR
 rw [results_cell_tmp hres, hp, hq]
 simp [asAddr, hl]
theorem wpList_load_blk {ops : Array Oper} {rest : List Oper} {o : Oper} {a : Act} {w : World} {Q : Exit → Act → World → Prop} (hgd : o.guard = none) (ty : TypeId) (x : Operand) (ho : o.op = .load ty x)
 (g : Nat) (hx : a.eval x = .pointer (some ⟨g, 0, none⟩)) (cs : Array Value) (hl : (loadVar ty ⟨g, 0, none⟩).run Try.prog w = .ok (.agg cs) w)
 (h : wpList Try.prog ops Q rest (a.put o.dst (.agg cs)) w) : wpList Try.prog ops Q (o :: rest) a w :=
 wpList_plain hgd fun _ hK => by
  unfold Oper.wp execOp
  simp only [ho, hx, Instr.loadAt, Instr.sureAddr, Sem.run_bind, Sem.run_pure, Result.andThen_ok, hl]
  exact hK _ _ h
theorem wpList_store_blk {ops : Array Oper} {rest : List Oper} {o : Oper} {a : Act} {w : World} {Q : Exit → Act → World → Prop} (hgd : o.guard = none) (ty : TypeId) (x y : Operand) (ho : o.op = .store ty x y)
 (g : Nat) (cells : Array Value) (hx : a.eval x = .pointer (some ⟨g, 0, none⟩)) (hy : a.eval y = .agg cells)
 (t : TypeId) (old : Array Value) (hg : Blk w g t old) (hi : (Try.prog.info? ty).map (·.size) = some cells.size)
 (hold : old.size = cells.size) (h1 : cells.all (·.oneCell') = true)
 (h : wpList Try.prog ops Q rest (a.put o.dst undef) (w.setRow g cells)) : wpList Try.prog ops Q (o :: rest) a w :=
 wpList_store_row hgd ty x y ho g cells hx hy t old hg hi hold h1 h
theorem wpList_built {ops : Array Oper} {rest : List Oper} {o : Oper} {a : Act} {w : World} {Q : Exit → Act → World → Prop} (hgd : o.guard = none) (t : TypeId) (parts : Array (Nat × Operand)) (ho : o.op = .build t parts) (cells : Array Value)
 (hf : Try.prog.built t (parts.map fun (i, x) => (i, a.eval x)).toList = some cells)
 (h : wpList Try.prog ops Q rest (a.put o.dst (.agg cells)) w) : wpList Try.prog ops Q (o :: rest) a w :=
 wpList_build hgd t parts ho (by rw [hf]; rfl) (by rw [hf]; exact h)
theorem wpStill_load_blk {ops : Array Oper} {rest : List Oper} {o : Oper} {a : Act} {w : World} {Q : Act → Prop} (hgd : o.guard = none) (ty : TypeId) (x : Operand) (ho : o.op = .load ty x)
 (g : Nat) (hx : a.eval x = .pointer (some ⟨g, 0, none⟩)) (cs : Array Value) (hl : (loadVar ty ⟨g, 0, none⟩).run Try.prog w = .ok (.agg cs) w)
 (h : wpStill Try.prog ops w Q rest (a.put o.dst (.agg cs))) : wpStill Try.prog ops w Q (o :: rest) a := by
 refine wpStill_step (fun K hK => ?_)
 have hw : Region.wanted o (yielded ops a.tmps) = true := by simp [Region.wanted, hgd]
 rw [if_pos hw]
 unfold Oper.still execOp
 simp only [ho, hx, Instr.loadAt, Instr.sureAddr, Sem.run_bind, Sem.run_pure, Result.andThen_ok, hl, Oper.stillUpon]
 exact ⟨trivial, hK _ h⟩
theorem exec_load_blk {o : Oper} {a : Act} {w : World} (ty : TypeId) (x : Operand) (ho : o.op = .load ty x) (g : Nat) (hx : a.eval x = .pointer (some ⟨g, 0, none⟩)) (cs : Array Value)
 (hl : (loadVar ty ⟨g, 0, none⟩).run Try.prog w = .ok (.agg cs) w) : (execOp a.eval o).run Try.prog w = .ok (.value (.agg cs)) w := by
 unfold execOp
 simp only [ho, hx, Instr.loadAt, Instr.sureAddr, Sem.run_bind, Sem.run_pure, Result.andThen_ok, hl]
theorem wpAnyH_takeD {ops : Array Oper} {Q : Exit → Act → World → Prop} {md : Region.Mode} {S : World → Prop} {i : Nat} (t : Nat) {oi : Oper} {v : Value} {fuel : Nat} {listed : Array Bool} {a : Act} {w : World} (hi : ops[i]? = some oi) (hd : oi.dst = some t)
 (hs : Region.noSelect ops = true) (hf : Region.free md ops listed i = true) (hr : (Region.ready md ops listed).contains i = true)
 (hQ : ∀ c a w, Q (.panic c) (a.put (some t) v) w → Q (.panic c) a w) (hy : YieldsIf Try.prog ops S oi v a) (hS : S w)
 (h : wpAnyH Try.prog md ops Q S fuel (listed.setIfInBounds i true) (a.put (some t) v) w) : wpAnyH Try.prog md ops Q S (fuel + 1) listed a w :=
 wpAnyH_take hi hs hf hr (by rw [hd]; exact hQ) hy hS (by rw [hd]; exact h)
theorem tkZ {ops : Array Oper} {Q : Exit → Act → World → Prop} {md : Region.Mode} {S : World → Prop} {fuel : Nat} {oi : Oper} {listed : Array Bool} {a : Act} {w : World} (t i : Nat) (hi : ops[i]? = some oi) (hd : oi.dst = some t) (v : Value)
 (hy : YieldsIf Try.prog ops S oi v a) (hS : S w) (h : wpAnyH Try.prog md ops Q S fuel (listed.setIfInBounds i true) (a.put (some t) v) w)
 (hs : Region.noSelect ops = true := by kernel_rfl) (hf : Region.free md ops listed i = true := by kernel_rfl) (hr : (Region.ready md ops listed).contains i = true := by kernel_rfl)
 (hQ : ∀ c a w, Q (.panic c) (a.put (some t) v) w → Q (.panic c) a w := by exact fun _ _ _ h => h) : wpAnyH Try.prog md ops Q S (fuel + 1) listed a w :=
 wpAnyH_takeD t hi hd hs hf hr hQ hy hS h
theorem zA {α : Type} (l : List α) (i : Nat) (a : α) : l.toArray.setIfInBounds i a = (l.set i a).toArray := List.setIfInBounds_toArray ..
theorem zB {α : Type} (x : α) (l : List α) (a : α) : (x :: l).set 0 a = a :: l := rfl
theorem zC {α : Type} (x : α) (l : List α) (n : Nat) (a : α) : (x :: l).set (n + 1) a = x :: l.set n a := rfl
theorem wpOp_enter {ops : Array Oper} {i : Nat} (t : Nat) {o : Oper} {a : Act} {w : World} {K : Act → World → Prop} {Q : Exit → Act → World → Prop} (hi : ops[i]? = some o) (hw : Region.wanted o (yielded ops a.tmps) = true) (hd : o.dst = some t) (f : FuncId) (vs : Array Value)
 (hx : (execOp a.eval o).run Try.prog w = .ok (.enter f vs) w) (v : Value) (R : World → Prop) (hc : Calls Try.prog f vs w (fun e w' => e = .returned v ∧ R w')) (h : ∀ w', R w' → K (a.put (some t) v) w') : wpOp Try.prog ops Q i K a w := by
 unfold wpOp
 simp only [hi, hw, if_true]
 refine .inl ?_
 unfold Oper.wp
 rw [hx]
 simp only [Oper.upon]
 refine hc.mono ?_
 rintro e w' ⟨rfl, hr⟩
 rw [hd]
 exact h _ hr
def setL : Array Value → Nat → List Value → Array Value
 | cs, _, [] => cs
 | cs, o, v :: r => setL (cs.setIfInBounds o v) (o + 1) r
theorem Blk.setMany {w : World} {g : Nat} {t : TypeId} : ∀ (vs : List Value) (o : Nat) (w : World) (cs : Array Value), Blk w g t cs → Blk (w.setCells g o vs) g t (setL cs o vs)
 | [], o, w, cs, h => h
 | v :: r, o, w, cs, h => Blk.setMany (w := w) r (o + 1) _ _ (h.set_ o v)
theorem Only.setMany (g : Nat) : ∀ (vs : List Value) (o : Nat) (w : World), Only w (w.setCells g o vs) (fun k => k = g)
 | [], o, w => Only.refl _ _
 | v :: r, o, w => (Only.setSelf w g o v).trans (Only.setMany g r (o + 1) _)
theorem Blk.range {w : World} {g o : Nat} {t : TypeId} {cs : Array Value} {vs : List Value} (h : Blk w g t cs) (hv : ∀ j v, vs[j]? = some v → cs[o + j]? = some v) : w.rangeAt g o vs :=
 fun j v hj => (h.cell (o + j)).trans (hv j v hj)
theorem Blk.there {w : World} {g o n : Nat} {t : TypeId} {cs : Array Value} (h : Blk w g t cs) (hn : o + n ≤ cs.size) : w.there g o n := fun j hj => by
 refine ⟨?_, h.frozen (o + j)⟩
 rw [h.cell, Array.getElem?_eq_getElem (by omega)]
 rfl
theorem setL_mid : ∀ (vs M P R : List Value), vs.length = M.length → setL (P ++ (M ++ R)).toArray P.length vs = (P ++ (vs ++ R)).toArray
 | [], [], P, R, _ => rfl
 | [], _ :: _, P, R, h => by simp at h
 | _ :: _, [], P, R, h => by simp at h
 | v :: vs, m :: M, P, R, h => by
   have e : (P ++ (m :: M ++ R)).toArray.setIfInBounds P.length v = ((P ++ [v]) ++ (M ++ R)).toArray := by
    simp [List.set_append_right]
   have := setL_mid vs M (P ++ [v]) R (by simpa using h)
   rw [setL, e]
   rw [List.length_append, List.length_singleton] at this
   rw [this]
   simp
theorem Try.builderSize : (Try.prog.info? 155).map (·.size) = some 2 := by kernel_rfl
theorem Try.builderLies : liesAt Try.prog Try.prog.depth 155 (2 / Try.prog.cellsOf 155) 0 155 1 = true := by kernel_rfl
theorem blk_shape {w : World} {b : Nat} {t : TypeId} {x y : Value} (h : Blk w b t #[x, y]) : w.shape? b = some (t, 2) := by
 unfold Blk at h
 simp [World.shape?, h]
theorem bcheck_fresh (b : Nat) (v : Value) (w : World) (h : Blk w b 155 #[.pointer none, v]) :
 Calls Try.prog 122 #[.pointer (some ⟨b, 0, none⟩)] w fun e w' => e = .returned (.tuple #[]) ∧ w' = w.setCell ⟨b, 0, none⟩ (.pointer (some ⟨b, 0, none⟩)) := by
 obtain ⟨j, hj, hjs⟩ := Option.map_eq_some_iff.1 Try.builderSize
 have hsh := blk_shape h
 have c0 := h.cell 0
 have f0 := h.frozen 0
 have l0 := h.lt
 clear h
 go_enter Try.func122, Try.ntmps122
 go_wp2_with fail
 rw [Lib.run_to_unsafe w ⟨b, 0, none⟩ Try.underlying152 Try.underlying209 hj (by rw [hjs]; decide) hsh (Nat.zero_lt_succ 1)]
 simp only [Result.andThen]
 rw [Oper.upon_value]
 go_wp2_with fail
 rw [run_callFunc_extern Try.func129 (by kernel_rfl) (by kernel_rfl) (by kernel_rfl) (e := Extern.AbiNoEscape.same) (by kernel_rfl)]
 rw [Lib.run_noEscape]
 simp only [Result.andThen]
 rw [Oper.upon_value]
 go_wp2_with fail
 rw [Lib.run_from_unsafe w ⟨b, 0, none⟩ Try.underlying209 Try.underlying152 hj hsh Try.builderLies]
 simp only [Result.andThen]
 rw [Oper.upon_value]
 go_wp2_with fail
 go_end0
 exact ⟨rfl, rfl⟩
theorem bcheck_used (b : Nat) (v : Value) (w : World) (h : Blk w b 155 #[.pointer (some ⟨b, 0, none⟩), v]) :
 Calls Try.prog 122 #[.pointer (some ⟨b, 0, none⟩)] w fun e w' => e = .returned (.tuple #[]) ∧ w' = w := by
 obtain ⟨j, hj, hjs⟩ := Option.map_eq_some_iff.1 Try.builderSize
 have c0 := h.cell 0
 clear h
 go_enter Try.func122, Try.ntmps122
 go_wp2_with fail
 rw [Lib.run_neq_ptr_same w _ Try.underlying152 hj]
 go_wp2_with fail
 go_end0
 exact ⟨rfl, rfl⟩
def Bd (w : World) (B b : Nat) (l : List UInt8) : Prop := Lib.IsBuilder 155 5 B b (Lib.byteCells l) w
theorem Bd.fresh_ (w : World) {B : Nat} (hB : B ≤ w.heap.size) : Bd (w.alloc (.cells #[.pointer none, .slice none 0 0] 155)) B w.heap.size [] :=
 .inl ⟨hB, _, heap_alloc_new w _, World.ownsRow_nil _ _ _ _, by simp [Value.ownBlock]⟩
def BK (b : Nat) (w w' : World) : Prop := ∀ g t cs, Blk w g t cs → t ≠ 5 → g ≠ b → Blk w' g t cs
theorem BK.trans {b : Nat} {w w' w'' : World} (h : BK b w w') (h' : BK b w' w'') : BK b w w'' := fun g t cs h1 h2 h3 => h' g t cs (h g t cs h1 h2 h3) h2 h3
theorem bcheck_any (B b : Nat) (bs : List Value) (w : World) (h : Lib.IsBuilder 155 5 B b bs w) :
 Calls Try.prog 122 #[.pointer (some ⟨b, 0, none⟩)] w fun e w' => e = .returned (.tuple #[]) ∧ Lib.BuilderAt 155 5 B b (.pointer (some ⟨b, 0, none⟩)) bs w' ∧ Below B w w' ∧ BK b w w' := by
 rcases h with h | h
 · obtain ⟨hB, v, hbk, ho, hne⟩ := h
   refine (bcheck_fresh b v w hbk).mono ?_
   rintro e w' ⟨rfl, rfl⟩
   exact ⟨rfl, Lib.BuilderAt.used ⟨hB, v, hbk, ho, hne⟩ _, (Below.refl B w).setCell (p := ⟨b, 0, none⟩) hB _, fun g t cs h1 h2 h3 => h1.far h3 _⟩
 · obtain ⟨hB, v, hbk, ho, hne⟩ := h
   refine (bcheck_used b v w hbk).mono ?_
   rintro e w' ⟨rfl, rfl⟩
   exact ⟨rfl, ⟨hB, v, hbk, ho, hne⟩, Below.refl B _, fun g t cs h1 h2 h3 => h1⟩
theorem Try.info_u8b : (Try.prog.info? 5).map (fun i => (i.zero, i.size, i.bytes)) = some (some (.int .u8 0), 1, 1) := by kernel_rfl
theorem bwrite_any (B b : Nat) (l : List UInt8) (s : ByteArray) (w : World) (h : Bd w B b l) (hlen : l.length + s.size ≤ 140737488355328) (hBw : B ≤ w.heap.size) :
 Calls Try.prog 94 #[.pointer (some ⟨b, 0, none⟩), .string s] w fun e w' => e = .returned (.tuple #[.int .i64 s.size, .nilIface]) ∧ Bd w' B b (l ++ s.data.toList) ∧ Below B w w' ∧ BK b w w' := by
 obtain ⟨i0, hi, hz0, hz1, hz2⟩ := info_parts Try.info_u8b
 have Hh := Lib.hid h
 have hs : s.size ≤ 9223372036854775807 := by omega
 clear h
 have hll : (Lib.byteCells l).length = l.length := by simp [Lib.byteCells]
 go_enter Try.func94, Try.ntmps94
 go_wp2_with fail
 refine (bcheck_any B b _ _ Hh.out).mono ?_
 rintro e w1 ⟨rfl, ⟨hB, v, hbk, hown, hne⟩, hb1, hbk1⟩
 have Hbk1 := Lib.hid hbk1
 clear hbk1
 have kb : Blk w1 b 155 #[.pointer (some ⟨b, 0, none⟩), v] := hbk
 have c0 := kb.cell 0
 have c1 := kb.cell 1
 have l1 := kb.lt
 have hBw1 : B ≤ w1.heap.size := by have := hb1.size; omega
 have Kb := Lib.hid kb
 have Hown := Lib.hid hown
 clear kb hbk hown
 go_wp2_with (at_builtin; refine Lib.wpList_append_own_string _ rfl _ _ 153 9 rfl B 5 i0 Try.underlying153 Try.underlying9 hi hz0 hz1 hz2 _ _ _ rfl Hown.out s rfl ?c3 ?c4 ?c5 ?_)
 case c3 => unfold maxLen; omega
 case c4 => omega
 case c5 => exact hBw1
 intro v' w2 hown' hgrow _
 have kb2 := Kb.out.grown hgrow (Ne.symm hne)
 have hge := own_ge Hown.out
 have hne2 : v'.ownBlock ≠ some b := own_blk_ne (t := 155) hown' kb2 (by decide)
 have hb2 : Below B w1 w2 := below_grown hgrow hBw1 hge
 have d0 := kb2.cell 0
 have d1 := kb2.cell 1
 have f1 := kb2.frozen 1
 have l2 := kb2.lt
 obtain ⟨ao, n', cap, rfl⟩ : ∃ ao n' cap, v' = .slice ao n' cap := by
  rcases hown'.2 with ⟨rfl, _⟩ | ⟨g, cap, cur, rfl, _⟩
  · exact ⟨_, _, _, rfl⟩
  · exact ⟨_, _, _, rfl⟩
 have Kb2 := Lib.hid kb2
 have Hown2 := Lib.hid hown'
 have hbelow := hb1.trans hb2
 have Hbk2 : Hid (BK b w1 w2) := Lib.hid fun g t cs h1 h2 h3 => h1.grown hgrow (own_blk_ne (t := t) Hown.out h1 (Ne.symm h2)).symm
 clear kb2 hown' hgrow hb1 hb2 c0 c1
 go_wp2_with fail
 go_ret2
 refine ⟨rfl, ?_, hbelow.trans ((Below.refl B w2).setCell (p := ⟨b, 1, none⟩) hB _), (Hbk1.out.trans Hbk2.out).trans fun g t cs h1 h2 h3 => h1.far h3 _⟩
 refine .inr ⟨hB, _, Kb2.out.set_ 1 _, ?_, hne2⟩
 have h1 := own_only (w' := w2.setCell ⟨b, 1, none⟩ (.slice ao n' cap)) (S := fun k => k = b) Hown2.out ⟨rfl, rfl, rfl, by simp [World.setCell], fun k _ hs => Below.heap_setCell w2 _ _ k fun e => hs e⟩ fun k hk e => hne2 (by rw [hk, e])
 have e1 : Lib.byteCells l ++ Lib.strCells s = Lib.byteCells (l ++ s.data.toList) := by simp [Lib.byteCells, Lib.strCells]
 rw [e1] at h1
 have e2 : (Lib.byteCells (l ++ s.data.toList)).length = l.length + s.size := by simp [Lib.byteCells]
 rw [e2]
 exact h1
theorem bstring_any (B b : Nat) (l : List UInt8) (w : World) (h : Bd w B b l) (hBw : B ≤ w.heap.size) :
 Calls Try.prog 95 #[.pointer (some ⟨b, 0, none⟩)] w fun e w' => e = .returned (.string ⟨l.toArray⟩) ∧ Below B w w' := Go.Proofs.Try.Builder_String_any B b l w h hBw
theorem Bd.alloc {w : World} {B b : Nat} {l : List UInt8} (h : Bd w B b l) (o : Obj) : Bd (w.alloc o) B b l := by
 rcases h with ⟨hB, v, hbk, ho, hne⟩ | ⟨hB, v, hbk, ho, hne⟩
 · exact .inl ⟨hB, v, Blk.alloc (t := 155) hbk o, ho.alloc o, hne⟩
 · exact .inr ⟨hB, v, Blk.alloc (t := 155) hbk o, ho.alloc o, hne⟩
end Go.Proofs.Ytokngfinnieccaa
namespace Go.Proofs.Ytokngfinnieccaa
set_option linter.unusedVariables false
set_option linter.unusedSimpArgs false
set_option maxRecDepth 100000
set_option maxHeartbeats 4000000
def rem (l : List Pt) (used : Nat) : List U := (units l).drop used
def adv : List Pt → Nat → Nat → List Pt × Nat
 | p :: r, used, n => if used + n = lenP p then (r, 0) else (p :: r, used + n)
 | [], used, _ => ([], used)
def WOk (l : List Pt) (used : Nat) : Prop := Fine l ∧ (l = [] → used = 0) ∧ ∀ p r, l = p :: r → used < lenP p
theorem rem_zero (l : List Pt) : rem l 0 = units l := rfl
theorem rem_cons {p : Pt} {r : List Pt} {used : Nat} (h : Shape p) (hu : used ≤ lenP p) : rem (p :: r) used = (up p).drop used ++ units r := by
 unfold rem
 rw [units_cons, List.drop_append_of_le_length (by rw [up_len p h]; exact hu)]
theorem rem_adv {p : Pt} {r : List Pt} {used n : Nat} (h : Shape p) (hu : used + n ≤ lenP p) : rem (adv (p :: r) used n).1 (adv (p :: r) used n).2 = (rem (p :: r) used).drop n := by
 simp only [adv]
 split
 · rename_i e
   rw [rem_cons h (by omega), rem_zero, List.drop_append, List.drop_eq_nil_of_le (by rw [List.length_drop, up_len p h]; omega)]
   rw [List.length_drop, up_len p h, show n - (lenP p - used) = 0 by omega]
   simp
 · unfold rem
   rw [List.drop_drop]
theorem wok_adv {p : Pt} {r : List Pt} {used n : Nat} (h : WOk (p :: r) used) (hu : used + n ≤ lenP p) : WOk (adv (p :: r) used n).1 (adv (p :: r) used n).2 := by
 obtain ⟨hf, _, h2⟩ := h
 simp only [adv]
 split
 · refine ⟨fun q hq => hf q (by simp [hq]), fun _ => rfl, fun q s e => ?_⟩
   have e' : r = q :: s := e
   have hs := hf q (by simp [e'])
   show 0 < lenP q
   unfold lenP
   rcases hs with ⟨h1, h2, h3⟩ | ⟨h1, h2, h3⟩
   · rw [if_neg (by omega)]; omega
   · rw [if_pos h1]; omega
 · rename_i hne
   refine ⟨hf, by simp, fun q s e => ?_⟩
   have e' : p = q := by injection e
   subst e'
   have := h2 p r rfl
   show used + n < lenP p
   omega
theorem rem_keep {r : List Pt} {N : Int} {t : ByteArray} {used n : Nat} (h : Shape (1, N, t)) (hu : used + n ≤ N.toNat) :
 rem ((1, N, t) :: r) used = List.replicate n none ++ rem (adv ((1, N, t) :: r) used n).1 (adv ((1, N, t) :: r) used n).2 := by
 have hl : lenP ((1, N, t) : Pt) = N.toNat := by simp [lenP]
 rw [rem_adv h (by rw [hl]; exact hu), rem_cons h (by rw [hl]; omega)]
 simp only [up, if_true, List.drop_replicate]
 rw [show N.toNat - used = n + (N.toNat - used - n) by omega, ← List.replicate_append_replicate, List.append_assoc, List.drop_left' (by simp)]
theorem rem_cut {r : List Pt} {N : Int} {t : ByteArray} {used n : Nat} (h : Shape (3, N, t)) (hu : used + n ≤ N.toNat) :
 rem ((3, N, t) :: r) used = List.replicate n (some none) ++ rem (adv ((3, N, t) :: r) used n).1 (adv ((3, N, t) :: r) used n).2 := by
 have hl : lenP ((3, N, t) : Pt) = N.toNat := by simp [lenP]
 rw [rem_adv h (by rw [hl]; exact hu), rem_cons h (by rw [hl]; omega)]
 have e : up ((3, N, t) : Pt) = List.replicate N.toNat (some none) := rfl
 rw [e, List.drop_replicate]
 rw [show N.toNat - used = n + (N.toNat - used - n) by omega, ← List.replicate_append_replicate, List.append_assoc, List.drop_left' (by simp)]
theorem pu_extract (t : ByteArray) (a b : Nat) : pu (t.extract a b) = ((pu t).take b).drop a := by
 unfold pu
 have e : (t.extract a b).data.toList = (t.data.toList.take b).drop a := by
  rw [ByteArray.data_extract, Array.toList_extract, List.extract_eq_take_drop, List.drop_take]
 rw [e, List.map_drop, List.map_take]
theorem rem_put {r : List Pt} {N : Int} {t : ByteArray} {used n : Nat} (h : Shape (2, N, t)) (hu : used + n ≤ t.size) :
 rem ((2, N, t) :: r) used = pu (t.extract used (used + n)) ++ rem (adv ((2, N, t) :: r) used n).1 (adv ((2, N, t) :: r) used n).2 := by
 have hl : lenP ((2, N, t) : Pt) = t.size := by simp [lenP]
 have hp : (pu t).length = t.size := by simp [pu]
 rw [rem_adv h (by rw [hl]; exact hu), rem_cons h (by rw [hl]; omega)]
 have e : up ((2, N, t) : Pt) = pu t := rfl
 rw [e, pu_extract]
 have e2 : (pu t).drop used = ((pu t).take (used + n)).drop used ++ (pu t).drop (used + n) := by
  conv => lhs; rw [← List.take_append_drop (used + n) (pu t)]
  rw [List.drop_append_of_le_length (by rw [List.length_take]; omega)]
 rw [e2, List.append_assoc, List.drop_left' (by rw [List.length_drop, List.length_take]; omega)]
theorem cmp_cuts (n : Nat) (xs ys : List U) : cmp (List.replicate n (some none) ++ xs) ys = List.replicate n (some none) ++ cmp xs ys := by
 induction n with
 | zero => rfl
 | succ n ih => rw [List.replicate_succ]; simp only [List.cons_append, cmp]; rw [ih]
theorem cmp_puts (s : List UInt8) (xs ys : List U) (h : ∀ r, xs ≠ some none :: r) : cmp xs (s.map (fun b => some (some b)) ++ ys) = s.map (fun b => some (some b)) ++ cmp xs ys := by
 induction s with
 | nil => rfl
 | cons b s ih => simp only [List.map_cons, List.cons_append]; rw [cmp_put _ _ _ h, ih]
theorem cmp_kk (n : Nat) (xs ys : List U) : cmp (List.replicate n none ++ xs) (List.replicate n none ++ ys) = List.replicate n none ++ cmp xs ys := by
 induction n with
 | zero => rfl
 | succ n ih => rw [List.replicate_succ]; simp only [List.cons_append, cmp, lead, rst, List.nil_append]; rw [ih]
theorem cmp_kc (n : Nat) (xs ys : List U) : cmp (List.replicate n none ++ xs) (List.replicate n (some none) ++ ys) = List.replicate n (some none) ++ cmp xs ys := by
 induction n with
 | zero => rfl
 | succ n ih => rw [List.replicate_succ, List.replicate_succ]; simp only [List.cons_append, cmp, lead, rst, List.nil_append]; rw [ih]
theorem cmp_pk (s : List UInt8) (xs ys : List U) : cmp (s.map (fun b => some (some b)) ++ xs) (List.replicate s.length none ++ ys) = s.map (fun b => some (some b)) ++ cmp xs ys := by
 induction s with
 | nil => rfl
 | cons b s ih => rw [List.length_cons, List.replicate_succ]; simp only [List.map_cons, List.cons_append, cmp, lead, rst, List.nil_append]; rw [ih]
theorem cmp_pc (s : List UInt8) (xs ys : List U) : cmp (s.map (fun b => some (some b)) ++ xs) (List.replicate s.length (some none) ++ ys) = cmp xs ys := by
 induction s with
 | nil => rfl
 | cons b s ih => rw [List.length_cons, List.replicate_succ]; simp only [List.map_cons, List.cons_append, cmp, lead, rst, List.nil_append]; rw [ih]
theorem mt_xputs (s : List UInt8) (xs ys : List U) : mt (s.map (fun b => some (some b)) ++ xs) ys = (s.map (fun b => some (some b)) ++ (mt xs ys).1, List.replicate s.length none ++ (mt xs ys).2) := by
 induction s with
 | nil => rfl
 | cons b s ih => simp only [List.map_cons, List.cons_append, mt, List.length_cons, List.replicate_succ]; rw [ih]
theorem mt_yputs (s : List UInt8) (xs ys : List U) (h : ∀ c r, xs ≠ some (some c) :: r) : mt xs (s.map (fun b => some (some b)) ++ ys) = (List.replicate s.length none ++ (mt xs ys).1, s.map (fun b => some (some b)) ++ (mt xs ys).2) := by
 induction s with
 | nil => rfl
 | cons b s ih => simp only [List.map_cons, List.cons_append, List.length_cons, List.replicate_succ]; rw [mt_put _ _ _ h, ih]
theorem mt_kk (n : Nat) (xs ys : List U) : mt (List.replicate n none ++ xs) (List.replicate n none ++ ys) = (List.replicate n none ++ (mt xs ys).1, List.replicate n none ++ (mt xs ys).2) := by
 induction n with
 | zero => rfl
 | succ n ih => rw [List.replicate_succ]; simp only [List.cons_append, mt, lead, rst, List.nil_append, List.map_nil]; rw [ih]
theorem mt_kc (n : Nat) (xs ys : List U) : mt (List.replicate n none ++ xs) (List.replicate n (some none) ++ ys) = ((mt xs ys).1, List.replicate n (some none) ++ (mt xs ys).2) := by
 induction n with
 | zero => rfl
 | succ n ih => rw [List.replicate_succ, List.replicate_succ]; simp only [List.cons_append, mt, lead, rst, List.nil_append, List.map_nil]; rw [ih]
theorem mt_ck (n : Nat) (xs ys : List U) : mt (List.replicate n (some none) ++ xs) (List.replicate n none ++ ys) = (List.replicate n (some none) ++ (mt xs ys).1, (mt xs ys).2) := by
 induction n with
 | zero => rfl
 | succ n ih => rw [List.replicate_succ, List.replicate_succ]; simp only [List.cons_append, mt, lead, rst, List.nil_append, List.map_nil]; rw [ih]
theorem mt_cc (n : Nat) (xs ys : List U) : mt (List.replicate n (some none) ++ xs) (List.replicate n (some none) ++ ys) = mt xs ys := by
 induction n with
 | zero => rfl
 | succ n ih => rw [List.replicate_succ]; simp only [List.cons_append, mt, lead, rst, List.nil_append, List.map_nil]; rw [ih]
theorem len_sizes : ∀ us : List U, us.length ≤ nI us + nO us
 | [] => Nat.le_refl _
 | none :: us => by have := len_sizes us; simp only [List.length_cons, nI, nO]; omega
 | some none :: us => by have := len_sizes us; simp only [List.length_cons, nI, nO]; omega
 | some (some b) :: us => by have := len_sizes us; simp only [List.length_cons, nI, nO]; omega
theorem lenP_sizes : ∀ (l : List Pt), Fine l → ∀ p ∈ l, ((p.1 = 1 ∨ p.1 = 3) → p.2.1 ≤ nI (units l)) ∧ (p.1 = 2 → p.2.2.size ≤ nO (units l))
 | [], _, p, hp => by simp at hp
 | q :: l, h, p, hp => by
   have hq := h q (by simp)
   rw [units_cons, nI_append, nO_append]
   rcases List.mem_cons.1 hp with rfl | hp
   · have h1 := nI_up p hq
     have h2 := nO_up p hq
     refine ⟨fun hk => ?_, fun hk => ?_⟩
     · rw [if_pos hk] at h1; omega
     · rw [if_neg (by omega), if_neg (by omega)] at h2; omega
   · have := lenP_sizes l (fun x hx => h x (by simp [hx])) p hp
     exact ⟨fun hk => by have := this.1 hk; omega, fun hk => by have := this.2 hk; omega⟩
theorem good_grp {us : List U} (hc : Cn us) (hi : nI us ≤ 500) (ho : nO us ≤ 500) : chk (grp us) = 0 := by
 have hf := fine_grp us
 have hu := units_grp us
 have hl : (grp us).length ≤ us.length := by
  have hadd : ∀ (u : U) (l : List Pt), (addU u l).length ≤ l.length + 1 := by
   intro u l
   rcases u with _ | _ | x <;> rcases l with _ | ⟨p, l⟩ <;> simp only [addU] <;> (try split) <;> simp
  have : ∀ us : List U, (grp us).length ≤ us.length := by
   intro us
   induction us with
   | nil => exact Nat.le_refl _
   | cons u us ih => have := hadd u (grp us); simp only [grp, List.length_cons]; omega
  exact this us
 have hs := len_sizes us
 have h1 := nI_units (grp us) hf
 have h2 := nO_units (grp us) hf
 rw [hu] at h1 h2
 have hfit : ∀ p ∈ grp us, fitE p = 0 := by
  intro p hp
  have hb := lenP_sizes (grp us) hf p hp
  rw [hu] at hb
  refine (fitE_zero p).2 ⟨hf p hp, ?_, ?_⟩
  · rcases hf p hp with ⟨h3, _, _⟩ | ⟨_, h4, _⟩
    · have := hb.1 h3; omega
    · omega
  · rcases hf p hp with ⟨_, _, h5⟩ | ⟨h3, _, _⟩
    · rw [h5]; exact Nat.zero_le _
    · have := hb.2 h3; omega
 have h0 : chkL 0 (grp us) = 0 := (chkL_zero _ 0).2 ⟨by
  rcases us with _ | ⟨u, us⟩
  · exact .inr rfl
  · left
    rw [hk_grp]
    rcases u with _ | _ | b <;> simp [kU, one], by omega, adj_grp us hc, hfit⟩
 unfold chk
 rw [if_neg (by omega), if_neg (by omega), if_neg (by omega)]
theorem good_cz {us : List U} (hi : nI us ≤ 500) (ho : nO us ≤ 500) : chk (grp (cz us)) = 0 :=
 good_grp (cn_cz us) (by rw [nI_cz]; exact hi) (by rw [nO_cz]; exact ho)
theorem chk_parts {l : List Pt} (h : chk l = 0) : l.length ≤ 1600 ∧ Adj l ∧ Fine l ∧ nI (units l) ≤ 500 ∧ nO (units l) ≤ 500 ∧ ∀ p ∈ l, fitE p = 0 := by
 unfold chk at h
 split at h
 · omega
 · split at h
   · omega
   · split at h
     · omega
     · rename_i h1 h2 h3
       obtain ⟨_, _, ha, hf⟩ := (chkL_zero l 0).1 (show chkL 0 l = 0 by omega)
       have hfi : Fine l := fun p hp => ((fitE_zero p).1 (hf p hp)).1
       have h4 := nI_units l hfi
       have h5 := nO_units l hfi
       exact ⟨by omega, ha, hfi, by omega, by omega, hf⟩
theorem ap_keeps {α : Type} (f : UInt8 → α) : ∀ (s : List α), ap f (List.replicate s.length none) s = s
 | [] => rfl
 | x :: s => by rw [List.length_cons, List.replicate_succ]; simp only [ap]; rw [ap_keeps f s]
theorem nI_keeps (n : Nat) : nI (List.replicate n none) = n := by
 induction n with
 | zero => rfl
 | succ n ih => rw [List.replicate_succ]; simp only [nI]; rw [ih]
theorem nO_keeps (n : Nat) : nO (List.replicate n none) = n := by
 induction n with
 | zero => rfl
 | succ n ih => rw [List.replicate_succ]; simp only [nO]; rw [ih]
theorem nI_cuts (n : Nat) : nI (List.replicate n (some none)) = n := by
 induction n with
 | zero => rfl
 | succ n ih => rw [List.replicate_succ]; simp only [nI]; rw [ih]
theorem nO_cuts (n : Nat) : nO (List.replicate n (some none)) = 0 := by
 induction n with
 | zero => rfl
 | succ n ih => rw [List.replicate_succ]; simp only [nO]; rw [ih]
theorem nI_pu (s : ByteArray) : nI (pu s) = 0 := by
 unfold pu
 induction s.data.toList with
 | nil => rfl
 | cons x l ih => simpa [nI] using ih
theorem nO_pu (s : ByteArray) : nO (pu s) = s.size := by
 have : ∀ l : List UInt8, nO (l.map (fun b => (some (some b) : U))) = l.length := by
  intro l
  induction l with
  | nil => rfl
  | cons x l ih => simp [nO, ih]
 unfold pu
 rw [this]; rfl
theorem meet_same {a b : List U} (h : nI a = nI b) : cz (cmp a (cz (mt a b).2)) = cz (cmp b (cz (mt a b).1)) := by
 obtain ⟨h1, h2⟩ := nI_mt a b h
 have hL : nO a = nI (cz (mt a b).2) := by rw [nI_cz]; omega
 have hR : nO b = nI (cz (mt a b).1) := by rw [nI_cz]; omega
 refine cz_of_ap (by rw [nI_cmp _ _ hL, nI_cmp _ _ hR, h]) fun s hs => ?_
 rw [nI_cmp _ _ hL] at hs
 rw [ap_cmp _ _ _ hL s (by omega), ap_cmp _ _ _ hR s (by omega), ap_cz, ap_cz, ap_mt _ a b h s (by omega)]
 · rw [ap_length _ _ _ (by omega)]; omega
 · rw [ap_length _ _ _ (by omega)]; omega
def nP : List U → Nat
 | [] => 0
 | some (some _) :: r => nP r + 1
 | _ :: r => nP r
theorem nP_mt (a b : List U) (h : nI a = nI b) : nP (mt a b).1 = nP a ∧ nP (mt a b).2 = nP b := by
 refine mt_ind (M := fun a b => nP (mt a b).1 = nP a ∧ nP (mt a b).2 = nP b) ⟨rfl, rfl⟩ ?_ ?_ ?_ ?_ ?_ ?_ _ a b (Nat.le_refl _) h
 · intro b xs ys h ih; simpa [mt, nP] using ih
 · intro xs b ys hx h ih; rw [mt_put _ _ _ hx]; simpa [nP] using ih
 all_goals intro xs ys h ih; simpa [mt, nP, lead, rst] using ih
theorem nP_append (a b : List U) : nP (a ++ b) = nP a + nP b := by
 induction a with
 | nil => simp [nP]
 | cons u a ih => rcases u with _ | _ | x <;> simp [nP, ih] <;> omega
theorem nP_insC (us : List U) : nP (insC us) = nP us := by
 induction us with
 | nil => rfl
 | cons u us ih => rcases u with _ | _ | x <;> simp [insC, nP, ih]
theorem nP_cz (us : List U) : nP (cz us) = nP us := by
 induction us with
 | nil => rfl
 | cons u us ih => rcases u with _ | _ | x <;> simp [cz, nP, ih, nP_insC]
def szP : List Pt → Int
 | [] => 0
 | p :: l => (p.2.2.size : Int) + szP l
theorem nP_up (p : Pt) (h : Shape p) : (nP (up p) : Int) = p.2.2.size := by
 obtain ⟨k, n, t⟩ := p
 have hr (u : U) (hu : nP [u] = 0) (n : Nat) : nP (List.replicate n u) = 0 := by
  induction n with
  | zero => rfl
  | succ n ih => rw [List.replicate_succ, show u :: List.replicate n u = [u] ++ List.replicate n u from rfl, nP_append, ih, hu]
 have hp : ∀ l : List UInt8, nP (l.map (fun b => (some (some b) : U))) = l.length := by
  intro l
  induction l with
  | nil => rfl
  | cons x l ih => simp [nP, ih]
 rcases h with ⟨h1 | h1, _, h3⟩ | ⟨h1, _, _⟩
 · simp only at h1 h3; subst h1; subst h3
   simp only [up, if_true]
   rw [hr _ rfl]; rfl
 · simp only at h1 h3; subst h1; subst h3
   rw [show up ((3, n, emp) : Pt) = List.replicate n.toNat (some none) from rfl, hr _ rfl]; rfl
 · simp only at h1; subst h1
   rw [show up ((2, n, t) : Pt) = t.data.toList.map (fun b => some (some b)) from rfl, hp]; rfl
theorem nP_units : ∀ (l : List Pt), Fine l → (nP (units l) : Int) = szP l
 | [], _ => rfl
 | p :: l, h => by
   have h1 := nP_up p (h p (by simp))
   have h2 := nP_units l fun q hq => h q (by simp [hq])
   rw [units_cons, nP_append]
   simp only [szP]
   omega
end Go.Proofs.Ytokngfinnieccaa
