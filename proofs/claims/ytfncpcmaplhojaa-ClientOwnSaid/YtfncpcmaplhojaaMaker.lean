/- Contracts of part.Maker's methods. -/
import Derived.Test.YtfncpcmaplhojaaPart
import Derived.Deep.RegionLaw
namespace Go.Proofs.Ytfncpcmaplhojaa
open Go.ChangeShapes Go.WideShapes Go.RowKit
set_option linter.unusedVariables false
set_option linter.unusedSimpArgs false
set_option maxRecDepth 100000
set_option maxHeartbeats 4000000

/-- a []Part of the call's own -/
def OwnP (w : World) (B : Nat) (v : Value) (l : List Pt) : Prop := w.ownsRow B 45 3 v l.length (pc l)
theorem Try.info_part : (Try.prog.info? 45).map (fun i => (i.zero, i.size, i.bytes)) = some (some (.agg #[.int .i64 0, .int .i64 0, .string ⟨#[]⟩]), 3, 32) := by kernel_rfl
theorem pc_append (a b : List Pt) : pc (a ++ b) = pc a ++ pc b := by simp [pc]
theorem OwnP.nil (w : World) (B : Nat) : OwnP w B (.slice none 0 0) [] := World.ownsRow_nil _ _ _ _
theorem OwnP.below {w w' : World} {B : Nat} {v : Value} {l : List Pt} (h : OwnP w B v l) (hb : Below w.heap.size w w') : OwnP w' B v l := own_below h hb
theorem OwnP.rd {w : World} {B : Nat} {v : Value} {l : List Pt} (h : OwnP w B v l) (ht : ∀ p ∈ l, p.2.2.size ≤ 140737488351232) : ∃ A c, v = .slice A l.length c ∧ RdP w w.heap.size A l.length c l := by
  obtain ⟨A, c, e, hr⟩ := Rd.own h
  exact ⟨A, c, e, rfl, hr, ht⟩
theorem OwnP.form {w : World} {B : Nat} {v : Value} {l : List Pt} (h : OwnP w B v l) : ∃ A c, v = .slice A l.length c := by
  rcases h.2 with ⟨rfl, h0⟩ | ⟨g, cap, cur, rfl, _⟩
  · exact ⟨none, 0, by rw [h0]⟩
  · exact ⟨_, _, rfl⟩
theorem OwnP.form_ {w : World} {B n : Nat} {v : Value} {l : List Pt} (h : OwnP w B v l) (hn : l.length = n) : ∃ A c, v = .slice A n c := hn ▸ h.form
theorem wpList_app_part {ops : Array Oper} {rest : List Oper} {o : Oper} {a : Act} {Q : Exit → Act → World → Prop} (w : World) (hgd : o.guard = none) (s x : Operand)
    (ho : o.op = .call { callee := .builtin .append, args := #[s, x], argTypes := #[27, 27] })
    (B : Nat) (v : Value) (l : List Pt) (hs : a.eval s = v) (hown : OwnP w B v l)
    (k n : Int) (t : ByteArray) (c : Nat) (hx : a.eval x = .slice (some ⟨w.heap.size, 0, none⟩) 1 c)
    (hn : l.length ≤ 100000000) (hB : B ≤ w.heap.size)
    (h : ∀ v' w', OwnP w' B v' (l ++ [(k, n, t)]) → Below B w w' → w.grownBy w' v.ownBlock → (v'.ownBlock = v.ownBlock ∨ v'.ownBlock = some (w.heap.size + 1)) → wpList Try.prog ops Q rest (a.put o.dst v') w') :
    wpList Try.prog ops Q (o :: rest) a (w.alloc (.cells #[.int .i64 k, .int .i64 n, .string t] 45)) := by
  obtain ⟨i0, hi, hz0, hz1, hz2⟩ := info_parts Try.info_part
  refine wpList_app1 w hgd s x 27 ho B 45 i0 _ 3 32 Try.underlying27 hi hz0 hz1 hz2 rfl (by omega) (by omega) v _ _ hs hown _ c hx rfl (by simp [Value.oneCell']) hn hB ?_
  intro v' w' h1 h2 h3 h4
  exact h v' w' (by unfold OwnP; rw [pc_append, List.length_append]; exact h1) h2 h3 h4
theorem step_app_part {ops : Array Oper} {o : Oper} {a : Act} {K : Act → World → Prop} {Q : Exit → Act → World → Prop} {E : Prop} (w : World) (hgd : o.guard = none) (s x : Operand)
    (ho : o.op = .call { callee := .builtin .append, args := #[s, x], argTypes := #[27, 27] })
    (B : Nat) (v : Value) (l : List Pt) (hs : a.eval s = v) (hown : OwnP w B v l)
    (k n : Int) (t : ByteArray) (c : Nat) (hx : a.eval x = .slice (some ⟨w.heap.size, 0, none⟩) 1 c)
    (hn : l.length ≤ 100000000) (hB : B ≤ w.heap.size)
    (h : ∀ v' w', OwnP w' B v' (l ++ [(k, n, t)]) → Below B w w' → w.grownBy w' v.ownBlock → (v'.ownBlock = v.ownBlock ∨ v'.ownBlock = some (w.heap.size + 1)) → K (a.put o.dst v') w') :
    if Region.wanted o (yielded ops a.tmps) = true then Oper.wp Try.prog o a (w.alloc (.cells #[.int .i64 k, .int .i64 n, .string t] 45)) K Q else E := by
  obtain ⟨i0, hi, hz0, hz1, hz2⟩ := info_parts Try.info_part
  refine step_append_any _ hgd s x 27 ho B 45 i0 _ 3 32 Try.underlying27 hi hz0 hz1 hz2 rfl (by omega) v _ _ hs (hown.alloc _) (w.heap.size + 1) _ 1 c [.int .i64 k, .int .i64 n, .string t] hx ?_ (by simp [Value.oneCell']) (by simp only [maxLen]; omega) (by omega) (by simp; omega) ?_
  · refine ⟨by simp, fun _ => ⟨_, rfl, by simp, fun j u hj => ?_⟩⟩
    have e1 : (w.alloc (.cells #[.int .i64 k, .int .i64 n, .string t] 45)).heap[w.heap.size]? = some (.cells #[.int .i64 k, .int .i64 n, .string t] 45) := heap_alloc_new w _
    rw [add0, cell_of_row _ _ j _ _ _ e1]
    simpa using hj
  · intro v' w' h2 h3 h4
    have hg := grown_unalloc h3
    exact h v' w' (by unfold OwnP; rw [pc_append, List.length_append]; exact h2) (below_grown hg hB (own_ge hown)) hg (by simpa using h4)

theorem step_app_drew {ops : Array Oper} {o : Oper} {a : Act} {K : Act → World → Prop} {Q : Exit → Act → World → Prop} {E : Prop} (w : World) (hgd : o.guard = none) (s x : Operand)
    (ho : o.op = .call { callee := .builtin .append, args := #[s, x], argTypes := #[27, 27] })
    (B : Nat) (v : Value) (l : List Pt) (hs : a.eval s = v) (hown : OwnP w B v l)
    (k n : Int) (t : ByteArray) (c : Nat) (hx : a.eval x = .slice (some ⟨w.heap.size, 0, none⟩) 1 c)
    (hn : l.length ≤ 100000000) (hB : B ≤ w.heap.size)
    (h : ∀ v' w', OwnP w' B v' (l ++ [(k, n, t)]) → Below B w w' → w.grownBy w' v.ownBlock → (v'.ownBlock = v.ownBlock ∨ v'.ownBlock = some (w.heap.size + 1)) → K (a.put o.dst v') w') :
    if Region.wanted o (yielded ops a.tmps) = true then Oper.wp Try.prog o a ((w.alloc (.cells #[.int .i64 k, .int .i64 n, .string t] 45)).drew) K Q else E :=
  step_app_part w.drew hgd s x ho B v l hs hown k n t c hx hn hB fun v' w' h1 h2 h3 h4 =>
    h v' w' h1 ⟨h2.os, h2.tape, h2.output, h2.size, h2.block⟩ ⟨h3.os, h3.tape, h3.output, h3.size, h3.block⟩ h4
/-- only the blocks of S, and what is new, have turned -/
def Only (w w' : World) (S : Nat → Prop) : Prop := w'.os = w.os ∧ w'.tape = w.tape ∧ w'.output = w.output ∧ w.heap.size ≤ w'.heap.size ∧ ∀ k, k < w.heap.size → ¬ S k → w'.heap[k]? = w.heap[k]?
section
variable {w w' w'' : World} {S T : Nat → Prop}
theorem Only.refl (w : World) (S : Nat → Prop) : Only w w S := ⟨rfl, rfl, rfl, Nat.le_refl _, fun _ _ _ => rfl⟩
theorem Only.trans (h : Only w w' S) (h' : Only w' w'' S) : Only w w'' S :=
  ⟨h'.1.trans h.1, h'.2.1.trans h.2.1, h'.2.2.1.trans h.2.2.1, Nat.le_trans h.2.2.2.1 h'.2.2.2.1, fun k hk hs => (h'.2.2.2.2 k (Nat.lt_of_lt_of_le hk h.2.2.2.1) hs).trans (h.2.2.2.2 k hk hs)⟩
theorem Only.mono (h : Only w w' S) (hST : ∀ k, k < w.heap.size → S k → T k) : Only w w' T := ⟨h.1, h.2.1, h.2.2.1, h.2.2.2.1, fun k hk hs => h.2.2.2.2 k hk fun hS => hs (hST k hk hS)⟩
theorem Only.below {B : Nat} (h : Only w w' S) (hB : B ≤ w.heap.size) (hS : ∀ k, S k → B ≤ k) : Below B w w' :=
  ⟨h.1, h.2.1, h.2.2.1, h.2.2.2.1, fun k hk => h.2.2.2.2 k (by omega) fun hs => by have := hS k hs; omega⟩
theorem Only.of_below (h : Below w.heap.size w w') : Only w w' S := ⟨h.os, h.tape, h.output, h.size, fun k hk _ => h.block k hk⟩
theorem Only.of_grown {row : Option Nat} (h : w.grownBy w' row) : Only w w' (fun k => row = some k) := ⟨h.os, h.tape, h.output, h.size, fun k hk hs => h.block k hk fun e => hs e.symm⟩
theorem Only.alloc (w : World) (o : Obj) : Only w (w.alloc o) S := ⟨rfl, rfl, rfl, by simp, fun k hk _ => Below.heap_alloc w o k hk⟩
theorem Only.setCell (w : World) (p : Addr) (u : Value) (hp : S p.block) : Only w (w.setCell p u) S :=
  ⟨rfl, rfl, rfl, by simp [World.setCell], fun k _ hs => Below.heap_setCell w p u k fun e => hs (e ▸ hp)⟩
theorem Only.setSelf (w : World) (g i : Nat) (u : Value) : Only w (w.setCell ⟨g, i, none⟩ u) (fun k => k = g) := Only.setCell _ _ _ rfl
theorem Only.drew (w : World) : Only w w.drew S := ⟨rfl, rfl, rfl, Nat.le_refl _, fun _ _ _ => rfl⟩
theorem Only.drewN (w : World) (n : Nat) : Only w (w.drewN n) S := ⟨rfl, rfl, rfl, Nat.le_refl _, fun _ _ _ => rfl⟩
theorem Blk.only {g : Nat} {t : TypeId} {cs : Array Value} (h : Blk w g t cs) (ho : Only w w' S) (hg : ¬ S g) : Blk w' g t cs := (ho.2.2.2.2 g h.lt hg).trans h
theorem own_only {base : Nat} {e : TypeId} {size n : Nat} {v : Value} {xs : List Value} (h : w.ownsRow base e size v n xs) (ho : Only w w' S) (hv : ∀ k, v.ownBlock = some k → ¬ S k) : w'.ownsRow base e size v n xs := by
  have hlt := own_lt h
  obtain ⟨h1, h2⟩ := h
  refine ⟨h1, ?_⟩
  rcases h2 with h2 | ⟨g, cap, cur, rfl, hg, hh, hr⟩
  · exact .inl h2
  · exact .inr ⟨g, cap, cur, rfl, hg, by rw [ho.2.2.2.2 g (hlt g rfl) (hv g rfl)]; exact hh, hr⟩
end

/-- what a Maker at block g holds, told the units us; ob: the block of its row -/
def MkS (w : World) (B g : Nat) (ob : Option Nat) (o : List Pt) (p : ByteArray) (c : Int) : Prop := ∃ v, Blk w g 165 #[v, .string p, .int .i64 c] ∧ OwnP w B v o ∧ v.ownBlock = ob
def Mk (w : World) (B g : Nat) (ob : Option Nat) (us : List U) : Prop := ∃ o p c, MkS w B g ob o p c ∧ MRep us o p c
/-- what a method of a Maker does to memory -/
def MFr (w w' : World) (g : Nat) (ob ob' : Option Nat) : Prop := Only w w' (fun k => k = g ∨ ob = some k) ∧ (ob' = ob ∨ ∀ k, ob' = some k → w.heap.size ≤ k)
theorem len_cz (us : List U) : (cz us).length = us.length := by
  have hi : ∀ us : List U, (insC us).length = us.length + 1 := by
    intro us; induction us with
    | nil => rfl
    | cons u us ih => rcases u with _ | _ | x <;> simp [insC, ih]
  induction us with
  | nil => rfl
  | cons u us ih => rcases u with _ | _ | x <;> simp [cz, ih, hi]
theorem len_addU (u : U) (l : List Pt) : (addU u l).length ≤ l.length + 1 := by
  rcases u with _ | _ | x <;> rcases l with _ | ⟨p, l⟩ <;> simp only [addU] <;> (try split) <;> simp
theorem len_grp : ∀ us : List U, (grp us).length ≤ us.length
  | [] => Nat.le_refl _
  | u :: us => by have := len_addU u (grp us); have := len_grp us; simp only [grp, List.length_cons]; omega
theorem len_units : ∀ l : List Pt, Fine l → ∀ p ∈ l, lenP p ≤ (units l).length
  | q :: l, h, p, hp => by
    rw [units_cons, List.length_append]
    rcases List.mem_cons.1 hp with rfl | hp
    · rw [up_len p (h p (by simp))]; omega
    · have := len_units l (fun x hx => h x (by simp [hx])) p hp; omega
theorem MRep.bounds {us : List U} {o : List Pt} {p : ByteArray} {c : Int} (h : MRep us o p c) : o.length ≤ us.length ∧ p.size ≤ us.length ∧ 0 ≤ c ∧ c ≤ us.length ∧ Fine o ∧ ∀ q ∈ o, lenP q ≤ us.length := by
  obtain ⟨w, rfl, hw, he, hc⟩ := h
  have hl := congrArg List.length he
  simp only [len_cz, List.length_append, pu, cu, List.length_map, List.length_replicate, bs_len] at hl
  have := len_grp w
  refine ⟨by omega, by omega, hc, by omega, fine_grp w, fun q hq => ?_⟩
  have := len_units (grp w) (fine_grp w) q hq
  rw [units_grp] at this
  omega
end Go.Proofs.Ytfncpcmaplhojaa
