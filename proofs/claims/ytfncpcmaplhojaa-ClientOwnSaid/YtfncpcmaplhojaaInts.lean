/- Slices of ints: read, searched, compared. -/
import Derived.Test.YtfncpcmaplhojaaRd
namespace Go.Proofs.Ytfncpcmaplhojaa
open Go.ChangeShapes Go.WideShapes Go.RowKit
set_option linter.unusedVariables false
set_option linter.unusedSimpArgs false
set_option maxRecDepth 100000
set_option maxHeartbeats 4000000

def ic (l : List Int) : List Value := l.map (Value.int .i64)
theorem ic_at (l : List Int) (k : Nat) (h : k < l.length) : (ic l)[k]? = some (.int .i64 l[k]) := by simp [ic, h]
theorem ic_len (l : List Int) : (ic l).length = l.length := by simp [ic]
/-- the slice reads as the list -/
def RdI (w : World) (B : Nat) (A : Option Addr) (n c : Nat) (l : List Int) : Prop := n = l.length ∧ Rd w B 1 A n c (ic l)
theorem RdI.at_ {w : World} {B n c : Nat} {A : Option Addr} {l : List Int} (h : RdI w B A n c l) (k : Nat) (hk : k < n) :
    ∃ b o, A = some ⟨b, o, none⟩ ∧ b < B ∧ w.cell? ⟨b, o + k, none⟩ = some (.int .i64 (l[k]'(by have := h.1; omega))) := by
  obtain ⟨b, o, e, hb, hc⟩ := h.2.2.2.2 (by omega)
  exact ⟨b, o, e, hb, hc k _ (ic_at l k (by have := h.1; omega))⟩
theorem RdI.below {w w' : World} {B n c : Nat} {A : Option Addr} {l : List Int} (h : RdI w B A n c l) (hb : Below B w w') : RdI w' B A n c l := ⟨h.1, h.2.below hb⟩
theorem RdI.more {w : World} {B B' n c : Nat} {A : Option Addr} {l : List Int} (h : RdI w B A n c l) (hB : B ≤ B') : RdI w B' A n c l := ⟨h.1, h.2.more hB⟩
theorem RdI.alloc {w : World} {B n c : Nat} {A : Option Addr} {l : List Int} (h : RdI w B A n c l) (hB : B ≤ w.heap.size) (o : Obj) : RdI (w.alloc o) B A n c l := ⟨h.1, h.2.alloc hB o⟩
theorem RdI.drewN {w : World} {B n c : Nat} {A : Option Addr} {l : List Int} (h : RdI w B A n c l) (k : Nat) : RdI (w.drewN k) B A n c l := ⟨h.1, h.2.drewN k⟩
theorem RdI.le {w : World} {B n c : Nat} {A : Option Addr} {l : List Int} (h : RdI w B A n c l) : n ≤ 9223372036854775807 := by have := h.2.1; have := h.2.2.1; unfold maxLen at this; omega

/-- a []int of the call's own -/
def OwnI (w : World) (B : Nat) (v : Value) (l : List Int) : Prop := w.ownsRow B 3 1 v l.length (ic l)
theorem Try.info_int : (Try.prog.info? 3).map (fun i => (i.zero, i.size, i.bytes)) = some (some (.int .i64 0), 1, 8) := by kernel_rfl
theorem OwnI.nil (w : World) (B : Nat) : OwnI w B (.slice none 0 0) [] := World.ownsRow_nil _ _ _ _
theorem OwnI.rd {w : World} {B : Nat} {v : Value} {l : List Int} (h : OwnI w B v l) : ∃ A c, v = .slice A l.length c ∧ RdI w w.heap.size A l.length c l := by
  obtain ⟨A, c, e, hr⟩ := Rd.own h
  exact ⟨A, c, e, rfl, hr⟩
theorem OwnI.below {w w' : World} {B : Nat} {v : Value} {l : List Int} (h : OwnI w B v l) (hb : Below w.heap.size w w') : OwnI w' B v l := own_below h hb
theorem own_base {w : World} {base base' : Nat} {e : TypeId} {size n : Nat} {v : Value} {xs : List Value} (h : w.ownsRow base e size v n xs) (hb : base' ≤ base) : w.ownsRow base' e size v n xs := by
  obtain ⟨h1, h2⟩ := h
  refine ⟨h1, ?_⟩
  rcases h2 with h2 | ⟨g, cap, cur, e1, hg, r⟩
  · exact .inl h2
  · exact .inr ⟨g, cap, cur, e1, by omega, r⟩
theorem RdI.built (w : World) (cs : Array Value) (l : List Int) (n : Nat) (hn : n = l.length) (hc : cs.toList = ic l) (hm : n ≤ maxLen) :
    RdI (w.alloc (.cells cs 3)) (w.heap.size + 1) (some ⟨w.heap.size, 0, none⟩) n n l := by
  refine ⟨hn, ?_⟩
  rw [← hc]
  exact Rd.built w _ cs (by have := congrArg List.length hc; simp only [Array.length_toList, ic_len] at this; omega) hm
theorem wpList_app_int {ops : Array Oper} {rest : List Oper} {o : Oper} {a : Act} {Q : Exit → Act → World → Prop} (w : World) (hgd : o.guard = none) (s x : Operand)
    (ho : o.op = .call { callee := .builtin .append, args := #[s, x], argTypes := #[150, 150] })
    (B : Nat) (v : Value) (l : List Int) (hs : a.eval s = v) (hown : OwnI w B v l)
    (u : Int) (c : Nat) (hx : a.eval x = .slice (some ⟨w.heap.size, 0, none⟩) 1 c)
    (hn : l.length ≤ 100000000) (hB : B ≤ w.heap.size)
    (h : ∀ v' w', OwnI w' B v' (l ++ [u]) → Below B w w' → w.grownBy w' v.ownBlock → (v'.ownBlock = v.ownBlock ∨ v'.ownBlock = some (w.heap.size + 1)) → wpList Try.prog ops Q rest (a.put o.dst v') w') :
    wpList Try.prog ops Q (o :: rest) a (w.alloc (.cells #[.int .i64 u] 3)) := by
  obtain ⟨i0, hi, hz0, hz1, hz2⟩ := info_parts Try.info_int
  refine wpList_app1 w hgd s x 150 ho B 3 i0 _ 1 8 Try.underlying150 hi hz0 hz1 hz2 rfl (by omega) (by omega) v _ _ hs hown _ c hx rfl (by simp [Value.oneCell']) hn hB ?_
  intro v' w' h1 h2 h3 h4
  exact h v' w' (by simpa [OwnI, ic] using h1) h2 h3 h4

end Go.Proofs.Ytfncpcmaplhojaa
