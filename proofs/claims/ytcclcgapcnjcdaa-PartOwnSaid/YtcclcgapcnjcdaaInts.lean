/- Slices of ints: read, searched, compared. -/
import Derived.Test.YtcclcgapcnjcdaaRd
namespace Go.Proofs.Ytcclcgapcnjcdaa
open Go.ChangeShapes Go.WideShapes Go.RowKit
set_option linter.unusedVariables false
set_option linter.unusedSimpArgs false
set_option maxRecDepth 100000
set_option maxHeartbeats 4000000

def ic (l : List Int) : List Value := l.map (Value.int .i64)
theorem ic_at (l : List Int) (k : Nat) (h : k < l.length) : (ic l)[k]? = some (.int .i64 l[k]) := by simp [ic, h]
theorem ic_len (l : List Int) : (ic l).length = l.length := by simp [ic]
/-- the slice reads as the list -/
def RdI (w : World) (B : Nat) (A : Option Addr) (n c : Nat) (l : List Int) : Prop := n = l.length ∧ Rd w B 1 A n c (ic l)
theorem RdI.at_ {w : World} {B n c : Nat} {A : Option Addr} {l : List Int} (h : RdI w B A n c l) (k : Nat) (hk : k < n) :
    ∃ b o, A = some ⟨b, o, none⟩ ∧ b < B ∧ w.cell? ⟨b, o + k, none⟩ = some (.int .i64 (l[k]'(by have := h.1; omega))) := by
  obtain ⟨b, o, e, hb, hc⟩ := h.2.2.2.2 (by omega)
  exact ⟨b, o, e, hb, hc k _ (ic_at l k (by have := h.1; omega))⟩
theorem RdI.below {w w' : World} {B n c : Nat} {A : Option Addr} {l : List Int} (h : RdI w B A n c l) (hb : Below B w w') : RdI w' B A n c l := ⟨h.1, h.2.below hb⟩
theorem RdI.more {w : World} {B B' n c : Nat} {A : Option Addr} {l : List Int} (h : RdI w B A n c l) (hB : B ≤ B') : RdI w B' A n c l := ⟨h.1, h.2.more hB⟩
theorem RdI.alloc {w : World} {B n c : Nat} {A : Option Addr} {l : List Int} (h : RdI w B A n c l) (hB : B ≤ w.heap.size) (o : Obj) : RdI (w.alloc o) B A n c l := ⟨h.1, h.2.alloc hB o⟩
theorem RdI.drewN {w : World} {B n c : Nat} {A : Option Addr} {l : List Int} (h : RdI w B A n c l) (k : Nat) : RdI (w.drewN k) B A n c l := ⟨h.1, h.2.drewN k⟩
theorem RdI.le {w : World} {B n c : Nat} {A : Option Addr} {l : List Int} (h : RdI w B A n c l) : n ≤ 9223372036854775807 := by have := h.2.1; have := h.2.2.1; unfold maxLen at this; omega

/-- a []int of the call's own -/
def OwnI (w : World) (B : Nat) (v : Value) (l : List Int) : Prop := w.ownsRow B 3 1 v l.length (ic l)
theorem Try.info_int : (Try.prog.info? 3).map (fun i => (i.zero, i.size, i.bytes)) = some (some (.int .i64 0), 1, 8) := by kernel_rfl
theorem OwnI.nil (w : World) (B : Nat) : OwnI w B (.slice none 0 0) [] := World.ownsRow_nil _ _ _ _
theorem OwnI.rd {w : World} {B : Nat} {v : Value} {l : List Int} (h : OwnI w B v l) : ∃ A c, v = .slice A l.length c ∧ RdI w w.heap.size A l.length c l := by
  obtain ⟨A, c, e, hr⟩ := Rd.own h
  exact ⟨A, c, e, rfl, hr⟩
theorem OwnI.below {w w' : World} {B : Nat} {v : Value} {l : List Int} (h : OwnI w B v l) (hb : Below w.heap.size w w') : OwnI w' B v l := own_below h hb
theorem own_base {w : World} {base base' : Nat} {e : TypeId} {size n : Nat} {v : Value} {xs : List Value} (h : w.ownsRow base e size v n xs) (hb : base' ≤ base) : w.ownsRow base' e size v n xs := by
  obtain ⟨h1, h2⟩ := h
  refine ⟨h1, ?_⟩
  rcases h2 with h2 | ⟨g, cap, cur, e1, hg, r⟩
  · exact .inl h2
  · exact .inr ⟨g, cap, cur, e1, by omega, r⟩
theorem RdI.built (w : World) (cs : Array Value) (l : List Int) (n : Nat) (hn : n = l.length) (hc : cs.toList = ic l) (hm : n ≤ maxLen) :
    RdI (w.alloc (.cells cs 3)) (w.heap.size + 1) (some ⟨w.heap.size, 0, none⟩) n n l := by
  refine ⟨hn, ?_⟩
  rw [← hc]
  exact Rd.built w _ cs (by have := congrArg List.length hc; simp only [Array.length_toList, ic_len] at this; omega) hm
theorem wpList_app_int {ops : Array Oper} {rest : List Oper} {o : Oper} {a : Act} {Q : Exit → Act → World → Prop} (w : World) (hgd : o.guard = none) (s x : Operand)
    (ho : o.op = .call { callee := .builtin .append, args := #[s, x], argTypes := #[22, 22] })
    (B : Nat) (v : Value) (l : List Int) (hs : a.eval s = v) (hown : OwnI w B v l)
    (u : Int) (c : Nat) (hx : a.eval x = .slice (some ⟨w.heap.size, 0, none⟩) 1 c)
    (hn : l.length ≤ 100000000) (hB : B ≤ w.heap.size)
    (h : ∀ v' w', OwnI w' B v' (l ++ [u]) → Below B w w' → w.grownBy w' v.ownBlock → (v'.ownBlock = v.ownBlock ∨ v'.ownBlock = some (w.heap.size + 1)) → wpList Try.prog ops Q rest (a.put o.dst v') w') :
    wpList Try.prog ops Q (o :: rest) a (w.alloc (.cells #[.int .i64 u] 3)) := by
  obtain ⟨i0, hi, hz0, hz1, hz2⟩ := info_parts Try.info_int
  refine wpList_app1 w hgd s x 22 ho B 3 i0 _ 1 8 Try.underlying22 hi hz0 hz1 hz2 rfl (by omega) (by omega) v _ _ hs hown _ c hx rfl (by simp [Value.oneCell']) hn hB ?_
  intro v' w' h1 h2 h3 h4
  exact h v' w' (by simpa [OwnI, ic] using h1) h2 h3 h4

/-- where x stands first from k on -/
theorem index_any (l : List Int) (x : Int) (A : Option Addr) (n c B : Nat) (w : World) (h : RdI w B A n c l) :
    Calls Try.prog 50 #[.slice A n c, .int .i64 x] w fun e w' => (∃ r : Int, e = .returned (.int .i64 r) ∧ ((0 ≤ r) ↔ x ∈ l)) ∧ w = w' := by
  have hle := h.le
  have H := Lib.hid h
  clear h
  go_enter Try.func50, Try.ntmps50
  go_wp2_with fail
  go_loop [5, 8] (fun i0 i => ∃ k : Nat, k ≤ n ∧ i = .int .i64 k ∧ Hid (x ∉ l.take k)) (fun _ i => n - (intOf i).toNat)
  case atStart => exact ⟨0, by omega, rfl, Lib.hid (by simp)⟩
  case round =>
    obtain ⟨k, hk, rfl, hm⟩ := hrel
    by_cases hlt : k < n
    · obtain ⟨b, o, rfl, hb, hc⟩ := H.out.at_ k hlt
      have hkl : k < l.length := by have := H.out.1; omega
      have hts : Hid (l.take (k + 1) = l.take k ++ [l[k]]) := Lib.hid (by rw [List.take_succ_eq_append_getElem hkl])
      have hin : Hid (l[k] ∈ l) := Lib.hid (List.getElem_mem hkl)
      generalize l[k] = y at *
      have hk0 : (0 : Int) ≤ (k : Int) := by omega
      have hkn : (k : Int) < (n : Int) := by omega
      by_cases hxy : x = y
      · subst hxy
        go_wp2_with fail
        go_ret
        exact ⟨⟨_, rfl, ⟨fun _ => hin.out, fun _ => hk0⟩⟩, rfl⟩
      · have hne : (x == y) = false := by simpa using hxy
        have Hxy := Lib.hid hxy
        clear hxy
        go_wp2_with fail
        go_round
        case rel => exact ⟨k + 1, by omega, by go_num, Lib.hid (by rw [hts.out, List.mem_append, List.mem_singleton]; exact fun h => h.elim hm.out Hxy.out)⟩
        case measure => simp [intOf]; omega
    · have hnot : Hid (x ∉ l) := Lib.hid (by have h1 := hm.out; rw [List.take_of_length_le (by have := H.out.1; omega)] at h1; exact h1)
      clear hm
      go_wp2_with fail
      go_ret
      exact ⟨⟨-1, rfl, ⟨fun h => absurd h (by omega), fun h => absurd h hnot.out⟩⟩, rfl⟩
theorem contains_any (l : List Int) (x : Int) (A : Option Addr) (n c B : Nat) (w : World) (h : RdI w B A n c l) (b : Bool) (hb : decide (x ∈ l) = b) :
    Calls Try.prog 21 #[.slice A n c, .int .i64 x] w fun e w' => e = .returned (.bool b) ∧ w = w' := by
  have H := Lib.hid h
  have HB := Lib.hid hb
  clear h hb
  go_enter Try.func21, Try.ntmps21
  go_wp2_with fail
  refine (index_any l x A n c B _ H.out).mono ?_
  rintro e w' ⟨⟨r, rfl, hr⟩, rfl⟩
  have Hr := Lib.hid hr
  clear hr
  go_wp2_with fail
  go_ret
  refine ⟨?_, rfl⟩
  rw [← HB.out]
  show Ending.returned (.bool (decide (0 ≤ r))) = _
  rw [decide_eq_decide.2 Hr.out]
theorem equal_any (l l' : List Int) (A A' : Option Addr) (n n' c c' B B' : Nat) (w : World) (h : RdI w B A n c l) (h' : RdI w B' A' n' c' l') (e : l = l') :
    Calls Try.prog 16 #[.slice A n c, .slice A' n' c'] w fun e w' => e = .returned (.bool true) ∧ Below w.heap.size w w' := by
  subst e
  obtain rfl : n' = n := by have := h.1; have := h'.1; omega
  have hle := h.le
  have H := Lib.hid h
  have H' := Lib.hid h'
  clear h h'
  go_enter Try.func16, Try.ntmps16
  go_wp2_with fail
  go_loopw [5, 13] (fun i0 i wr => ∃ (k q : Nat), k ≤ n' ∧ i = .int .i64 k ∧ wr = w.drewN q) (fun _ i _ => n' - (intOf i).toNat)
  case atStart => exact ⟨0, 0, by omega, rfl, rfl⟩
  case round =>
    obtain ⟨k, q, hk, rfl, rfl⟩ := hrel
    by_cases hlt : k < n'
    · obtain ⟨b, o, rfl, hb, hc⟩ := H.out.at_ k hlt
      obtain ⟨b', o', rfl, hb', hc'⟩ := H'.out.at_ k hlt
      have hkl : k < l.length := by have := H.out.1; omega
      generalize l[k] = y at *
      have hk0 : (0 : Int) ≤ (k : Int) := by omega
      have hkn : (k : Int) < (n' : Int) := by omega
      go_wp2_with fail
      go_quiet (fail)
      go_wp2_with fail
      go_roundw
      case rel => exact ⟨k + 1, _, by omega, by go_num, rfl⟩
      case measure => simp [intOf]; omega
    · go_wp2_with fail
      go_ret
      exact ⟨rfl, below_drewN_ (Below.refl _ _) q⟩
end Go.Proofs.Ytcclcgapcnjcdaa
