/- Rows of frames; frame.Scan. -/
import Derived.Test.YtcclcgapcnjcdaaFrame
import Derived.Test.YtcclcgapcnjcdaaFrameLaw
import Derived.Test.YtcclcgapcnjcdaaRd
import Derived.Test.YtcclcgapcnjcdaaOpenParts
namespace Go.Proofs.Ytcclcgapcnjcdaa
open Go.ChangeShapes Go.WideShapes Go.RowKit Go.Joins Go.Deep
set_option linter.unusedVariables false
set_option linter.unusedSimpArgs false
set_option maxRecDepth 100000
set_option maxHeartbeats 4000000

abbrev Fm := Int × ByteArray
def fc (l : List Fm) : List Value := l.flatMap fun p => [.int .i64 p.1, .string p.2]
theorem fc_len : ∀ l : List Fm, (fc l).length = l.length * 2
  | [] => rfl
  | p :: l => by have := fc_len l; simp only [fc, List.flatMap_cons, List.length_append, List.length_cons, List.length_nil] at this ⊢; omega
theorem fc_at : ∀ (l : List Fm) (k : Nat) (h : k < l.length), (fc l)[k * 2]? = some (.int .i64 l[k].1) ∧ (fc l)[k * 2 + 1]? = some (.string l[k].2)
  | [], k, h => absurd h (by simp)
  | p :: l, 0, h => ⟨rfl, rfl⟩
  | p :: l, k + 1, h => by
    have := fc_at l k (by simpa using h)
    have e (j : Nat) : (fc (p :: l))[(k + 1) * 2 + j]? = (fc l)[k * 2 + j]? := by
      simp only [fc, List.flatMap_cons]
      rw [List.getElem?_append_right (by simp; omega)]
      congr 1
      simp; omega
    have e0 := e 0
    simp only [Nat.add_zero] at e0
    rw [e0, e 1]
    exact this
theorem fc_append (l l' : List Fm) : fc (l ++ l') = fc l ++ fc l' := by simp [fc]
theorem fc_cell (l : List Fm) : ∀ u ∈ fc l, u.oneCell' = true := by
  intro u hu
  unfold fc at hu
  obtain ⟨p, _, h⟩ := List.mem_flatMap.1 hu
  simp only [List.mem_cons, List.not_mem_nil, or_false] at h
  rcases h with rfl | rfl <;> rfl
def RdF (w : World) (B : Nat) (A : Option Addr) (n c : Nat) (l : List Fm) : Prop := n = l.length ∧ Rd w B 2 A n c (fc l)
section
variable {w w' : World} {B B' n c : Nat} {A : Option Addr} {l : List Fm}
theorem RdF.at_ (h : RdF w B A n c l) (k : Nat) (hk : k < n) :
    ∃ b o, A = some ⟨b, o, none⟩ ∧ b < B ∧ w.cell? ⟨b, o + k * 2, none⟩ = some (.int .i64 (l[k]'(by have := h.1; omega)).1) ∧ w.cell? ⟨b, o + k * 2 + 1, none⟩ = some (.string (l[k]'(by have := h.1; omega)).2) := by
  obtain ⟨h0, hr⟩ := h
  obtain ⟨b, o, e, hb, hc⟩ := hr.2.2.2 (by omega)
  obtain ⟨h1, h2⟩ := fc_at l k (by omega)
  refine ⟨b, o, e, hb, hc _ _ h1, ?_⟩
  have := hc _ _ h2
  rwa [← Nat.add_assoc] at this
theorem RdF.below (h : RdF w B A n c l) (hb : Below B w w') : RdF w' B A n c l := ⟨h.1, h.2.below hb⟩
theorem RdF.more (h : RdF w B A n c l) (hB : B ≤ B') : RdF w B' A n c l := ⟨h.1, h.2.more hB⟩
theorem RdF.step (h : RdF w w.heap.size A n c l) (hb : Below w.heap.size w w') : RdF w' w'.heap.size A n c l := (h.below hb).more hb.size
theorem RdF.stepA (h : RdF w w.heap.size A n c l) (o : Obj) : RdF (w.alloc o) (w.alloc o).heap.size A n c l := ⟨h.1, (h.2.alloc (Nat.le_refl _) o).more (by simp)⟩
theorem RdF.le (h : RdF w B A n c l) : n ≤ 9223372036854775807 := by have := h.2.1; have := h.2.2.1; unfold maxLen at this; omega
end
def OwnF (w : World) (B : Nat) (v : Value) (l : List Fm) : Prop := w.ownsRow B 37 2 v l.length (fc l)
theorem OwnF.nil (w : World) (B : Nat) : OwnF w B (.slice none 0 0) [] := World.ownsRow_nil _ _ _ _
theorem OwnF.rd {w : World} {B : Nat} {v : Value} {l : List Fm} (h : OwnF w B v l) : ∃ A c, v = .slice A l.length c ∧ RdF w w.heap.size A l.length c l := by
  obtain ⟨A, c, e, hr⟩ := Rd.own h
  exact ⟨A, c, e, rfl, hr⟩
theorem Try.info_frame : (Try.prog.info? 37).map (fun i => (i.zero, i.size, i.bytes)) = some (some (.agg #[.int .i64 0, .string ⟨#[]⟩]), 2, 24) := by kernel_rfl
theorem wpList_app_fm {ops : Array Oper} {rest : List Oper} {o : Oper} {a : Act} {Q : Exit → Act → World → Prop} (w : World) (k : Int) (t : ByteArray) (hgd : o.guard = none) (s x : Operand)
    (ho : o.op = .call { callee := .builtin .append, args := #[s, x], argTypes := #[35, 35] })
    (B : Nat) (v : Value) (l : List Fm) (hs : a.eval s = v) (hown : OwnF (w.alloc (.cells #[.int .i64 k, .string t] 37)) B v l)
    (c g : Nat) (hg : w.heap.size = g) (hx : a.eval x = .slice (some ⟨g, 0, none⟩) 1 c)
    (hn : l.length ≤ 5864062014636) (hB : B ≤ w.heap.size)
    (h : ∀ v' w', OwnF w' B v' (l ++ [(k, t)]) → Below B (w.alloc (.cells #[.int .i64 k, .string t] 37)) w' → (w.alloc (.cells #[.int .i64 k, .string t] 37)).grownBy w' v.ownBlock → wpList Try.prog ops Q rest (a.put o.dst v') w') :
    wpList Try.prog ops Q (o :: rest) a (w.alloc (.cells #[.int .i64 k, .string t] 37)) := by
  subst hg
  obtain ⟨i0, hi, hz0, hz1, hz2⟩ := info_parts Try.info_frame
  have hB2 : B ≤ (w.alloc (.cells #[.int .i64 k, .string t] 37)).heap.size := by simp; omega
  have hr := Rd.built w 37 #[.int .i64 k, .string t] (n := 1) (size := 2) rfl (by decide)
  refine wpList_append_any (w.alloc (.cells #[.int .i64 k, .string t] 37)) hgd s x 35 ho B 37 i0 _ 2 24 Try.underlying35 hi hz0 hz1 hz2 rfl (by omega) v _ _ hs hown (w.heap.size + 1) _ 1 c (fc [(k, t)]) hx ?_ (fc_cell _) (by simp only [maxLen]; omega) (by omega) hB2 ?_
  · refine ⟨rfl, fun h0 => ?_⟩
    obtain ⟨b, o', e, hb, hc⟩ := hr.2.2.2 h0
    refine ⟨_, e, hb, fun j u hj => ?_⟩
    have := hc j u hj
    by_cases h00 : j = 0
    · subst h00; simpa [Addr.add] using this
    · simpa [Addr.add, h00] using this
  · intro v' w' h2 h3 h4
    refine h v' w' ?_ (below_grown h3 hB2 (own_ge hown)) h3
    unfold OwnF
    rw [fc_append, List.length_append]
    exact h2
theorem eqf_nil (w : World) (a : Option Addr) (l c : Nat) : (binOp .eql 35 (.slice a l c) (.slice none 0 0)).run Try.prog w = .ok (.bool a.isNone) w := by
  simp [binOp, run_equal_slice_nil w 35 37 a l c Try.underlying35]
theorem cloneF_any (l : List Fm) (A : Option Addr) (n c : Nat) (w : World) (h : RdF w w.heap.size A n c l) (hn : n ≤ 5864062014635) :
    Calls Try.prog 24 #[.slice A n c] w fun e w' => ∃ v, e = .returned v ∧ OwnF w' w.heap.size v l ∧ Below w.heap.size w w' := by
  cases A with
  | none =>
    have hl : l = [] := by
      rcases Nat.eq_zero_or_pos n with h0 | h0
      · exact List.eq_nil_of_length_eq_zero (by rw [← h.1]; exact h0)
      · obtain ⟨b, o, e, _⟩ := h.at_ 0 h0
        cases e
    subst hl
    clear h
    go_enter Try.func24, Try.ntmps24
    have hq := eqf_nil w none n c
    go_wp2_with fail
    go_ret
    exact ⟨_, rfl, OwnF.nil _ _, Below.refl _ _⟩
  | some a =>
    obtain ⟨hl, hr⟩ := h
    obtain ⟨i0, hi, hz0, hz1, hz2⟩ := info_parts Try.info_frame
    have Hl := Lib.hid hl
    have hq := eqf_nil w (some a) n c
    have ho : (w.alloc (.cells #[] 37)).ownsRow w.heap.size 37 2 (.slice (some ⟨w.heap.size, 0, none⟩) 0 0) 0 [] := World.ownsRow_made w #[] 0 (Nat.le_refl _) (by decide) rfl
    have Ho := Lib.hid ho
    have hB : w.heap.size ≤ (w.alloc (.cells #[] 37)).heap.size := by simp
    have hrd : Reads (w.alloc (.cells #[] 37)) w.heap.size 2 (some a) n (fc l) := by
      have h2 := hr.alloc (Nat.le_refl _) (.cells #[] 37)
      refine ⟨by rw [fc_len, hl], fun h0 => ?_⟩
      obtain ⟨b, o', e, hb, hc⟩ := h2.2.2.2 h0
      refine ⟨_, e, hb, fun j u hj => ?_⟩
      have := hc j u hj
      by_cases h00 : j = 0
      · subst h00; simpa [Addr.add] using this
      · simpa [Addr.add, h00] using this
    have Hrd := Lib.hid hrd
    clear ho hr hrd hl
    go_enter Try.func24, Try.ntmps24
    go_wp2_with (first | (at_builtin; go_loud (refine wpList_append_any _ rfl (.tmp 5) (.tmp 6) 35 rfl w.heap.size 37 i0 _ 2 24 Try.underlying35 hi hz0 hz1 hz2 rfl (by omega) _ 0 [] rfl Ho.out w.heap.size (some a) n c (fc l) rfl Hrd.out (fc_cell l) (by simp only [maxLen]; omega) (by omega) hB ?_; intro v4 w4 k1 k2 k3)))
    go_ret
    rw [List.nil_append, Nat.zero_add] at k1
    exact ⟨_, rfl, by unfold OwnF; rw [← Hl.out]; exact k1, ((Below.refl w.heap.size w).alloc (Nat.le_refl _) _).trans (below_grown k2 hB (own_ge Ho.out))⟩
theorem equalF_any (l : List Fm) (A A' : Option Addr) (n n' c c' B B' : Nat) (w : World) (h : RdF w B A n c l) (h' : RdF w B' A' n' c' l) :
    Calls Try.prog 25 #[.slice A n c, .slice A' n' c'] w fun e w' => e = .returned (.bool true) ∧ Below w.heap.size w w' := by
  obtain rfl : n' = n := by have := h.1; have := h'.1; omega
  have hle := h.le
  have H := Lib.hid h
  have H' := Lib.hid h'
  clear h h'
  go_enter Try.func25, Try.ntmps25
  go_wp2_with fail
  go_loopw [5, 13] (fun i0 i wr => ∃ (k q : Nat), k ≤ n' ∧ i = .int .i64 k ∧ wr = w.drewN q) (fun _ i _ => n' - (intOf i).toNat)
  case atStart => exact ⟨0, 0, by omega, rfl, rfl⟩
  case round =>
    obtain ⟨k, q, hk, rfl, rfl⟩ := hrel
    by_cases hlt : k < n'
    · obtain ⟨b, o, rfl, hb, c0, c1⟩ := H.out.at_ k hlt
      obtain ⟨b', o', rfl, hb', d0, d1⟩ := H'.out.at_ k hlt
      have hkl : k < l.length := by have := H.out.1; omega
      generalize l[k] = y at *
      obtain ⟨y1, y2⟩ := y
      simp only at c0 c1 d0 d1
      have hk0 : (0 : Int) ≤ (k : Int) := by omega
      have hkn : (k : Int) < (n' : Int) := by omega
      go_wp2_with fail
      go_quiet (fail)
      go_wp2_with fail
      go_roundw
      case rel => exact ⟨k + 1, _, by omega, by go_num, rfl⟩
      case measure => simp [intOf]; omega
    · go_wp2_with fail
      go_ret
      exact ⟨rfl, below_drewN_ (Below.refl _ _) q⟩
end Go.Proofs.Ytcclcgapcnjcdaa
