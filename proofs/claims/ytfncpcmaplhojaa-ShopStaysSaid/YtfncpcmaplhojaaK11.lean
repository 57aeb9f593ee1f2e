/- scrivkeep's helpers over room: roomy. scrivkeep's helpers over room: mark, filledUp. slices.Clone of parts. spoil of a row of the call's own. Contracts of part.Walk and part.Walker's methods. -/
import Derived.Test.YtfncpcmaplhojaaK10
import Derived.Deep.DeepAppendRoom
import Derived.Laws.AppendOwnNone
import Derived.Test.YtfncpcmaplhojaaK3
import Derived.Test.YtfncpcmaplhojaaK5
namespace Go.Proofs.Ytfncpcmaplhojaa
open Go.ChangeShapes Go.WideShapes Go.RowKit
set_option linter.unusedVariables false
set_option linter.unusedSimpArgs false
set_option maxRecDepth 100000
set_option maxHeartbeats 4000000

theorem take_set3 (l : List Value) (j : Nat) (a b c : Value) (h : j * 3 + 3 ≤ l.length) :
    (((l.set (j * 3) a).set (j * 3 + 1) b).set (j * 3 + 2) c).take ((j + 1) * 3) = l.take (j * 3) ++ [a, b, c] := by
  apply List.ext_getElem?
  intro i
  rw [List.getElem?_take]
  by_cases h1 : i < j * 3
  · rw [if_pos (by omega), List.getElem?_append_left (by rw [List.length_take]; omega), List.getElem?_take, if_pos h1,
      List.getElem?_set_ne (by omega), List.getElem?_set_ne (by omega), List.getElem?_set_ne (by omega)]
  · have hl : (l.take (j * 3)).length = j * 3 := by rw [List.length_take]; omega
    rw [List.getElem?_append_right (by omega), hl]
    by_cases h2 : i = j * 3
    · subst h2
      rw [if_pos (by omega), List.getElem?_set_ne (by omega), List.getElem?_set_ne (by omega), List.getElem?_set_self (by omega)]
      simp
    · by_cases h3 : i = j * 3 + 1
      · subst h3
        rw [if_pos (by omega), List.getElem?_set_ne (by omega), List.getElem?_set_self (by rw [List.length_set]; omega)]
        simp
      · by_cases h4 : i = j * 3 + 2
        · subst h4
          rw [if_pos (by omega), List.getElem?_set_self (by rw [List.length_set, List.length_set]; omega)]
          simp
        · rw [if_neg (by omega)]
          obtain ⟨m, rfl⟩ : ∃ m, i = j * 3 + 3 + m := ⟨i - (j * 3 + 3), by omega⟩
          rw [show j * 3 + 3 + m - j * 3 = m + 3 by omega]
          rfl
/-- a list with room behind it, in which p stands three times -/
def Room (w : World) (B g n : Nat) (l : List Pt) : Prop := B ≤ g ∧ ∃ cs : Array Value, Blk w g 45 cs ∧ cs.size = (n + 3) * 3 ∧ cs.toList = pc l
theorem room_step (cs : Array Value) (l : List Pt) (j N : Nat) (kd m : Int) (t : ByteArray) (hs : cs.size = N * 3) (hj : j < N) (ht : cs.toList.take (j * 3) = pc l) :
    (((cs.setIfInBounds (j * 3) (.int .i64 kd)).setIfInBounds (j * 3 + 1) (.int .i64 m)).setIfInBounds (j * 3 + 2) (.string t)).toList.take ((j + 1) * 3) = pc (l ++ [(kd, m, t)]) := by
  rw [Array.toList_setIfInBounds, Array.toList_setIfInBounds, Array.toList_setIfInBounds, take_set3 _ _ _ _ _ (by rw [Array.length_toList, hs]; omega), ht, pc_append]
  rfl
theorem room_src {w : World} {B n c : Nat} {ad : Addr} {l : List Pt} (h : RdP w B (some ad) n c l) : ∀ j u, (pc l)[j]? = some u → w.cell? (ad.add j) = some u := by
  intro j u hj
  by_cases h0 : 0 < n
  · obtain ⟨b, o, e, hb, hc⟩ := h.2.1.2.2.2 h0
    obtain rfl := Option.some.inj e
    have := hc j u hj
    by_cases h00 : j = 0
    · subst h00; simpa [Addr.add] using this
    · simpa [Addr.add, h00] using this
  · have : l.length = 0 := by rw [← h.1]; omega
    rw [List.length_eq_zero_iff] at this
    subst this
    simp [pc] at hj
theorem pc_one (l : List Pt) : ∀ u ∈ pc l, u.oneCell' = true := by
  intro u hu
  unfold pc at hu
  obtain ⟨p, _, hp⟩ := List.mem_flatMap.1 hu
  simp only [pcells, List.mem_cons, List.not_mem_nil, or_false] at hp
  rcases hp with rfl | rfl | rfl <;> rfl
/-- append of parts where there is room -/
theorem wpList_app_room {ops : Array Oper} {rest : List Oper} {o : Oper} {a : Act} {Q : Exit → Act → World → Prop} (w : World) (hgd : o.guard = none) (s x : Operand)
    (ho : o.op = .call { callee := .builtin .append, args := #[s, x], argTypes := #[27, 27] })
    (B g N : Nat) (hs : a.eval s = .slice (some ⟨g, 0, none⟩) 0 N) (hown : w.ownsRow B 45 3 (.slice (some ⟨g, 0, none⟩) 0 N) 0 [])
    (A : Option Addr) (n c B' : Nat) (l : List Pt) (hx : a.eval x = .slice A n c) (hr : RdP w B' A n c l) (hA : A = none → c = 0) (hn : n ≤ N)
    (h : ∀ w', w'.ownsRow B 45 3 (.slice (some ⟨g, 0, none⟩) n N) n (pc l) → w.grownBy w' (some g) → wpList Try.prog ops Q rest (a.put o.dst (.slice (some ⟨g, 0, none⟩) n N)) w') :
    wpList Try.prog ops Q (o :: rest) a w := by
  obtain ⟨i0, hi, hz0, hz1, hz2⟩ := info_parts Try.info_part
  cases A with
  | none =>
    obtain rfl := hA rfl
    obtain rfl : n = 0 := by have := hr.2.1.1; omega
    have e : l = [] := by rw [← List.length_eq_zero_iff, ← hr.1]
    subst e
    exact wpList_append_own_none hgd s x 27 ho B 45 i0 3 Try.underlying27 hi _ 0 [] hs hown hx (h w hown ⟨rfl, rfl, rfl, Nat.le_refl _, fun _ _ _ => rfl⟩)
  | some ad =>
    refine wpList_append_own_spare w hgd s x 27 ho B 45 i0 3 Try.underlying27 hi hz1 _ _ _ _ hs hown ad n c (pc l) hx (by rw [pc_len, hr.1]) (room_src hr) (pc_one l) (by omega) ?_
    intro w' h1 h2
    rw [Nat.zero_add, List.nil_append] at h1
    rw [Nat.zero_add]
    exact h w' h1 h2
theorem roomy_any (l : List Pt) (p : Pt) (A : Option Addr) (n c : Nat) (w : World) (h : RdP w w.heap.size A n c l) (hn : n ≤ 4398046511104) (hA : A = none → c = 0) :
    Calls Try.prog 25 #[.slice A n c, pval p] w fun e w' => ∃ g, e = .returned (.slice (some ⟨g, 0, none⟩) n (n + 3)) ∧ Room w' w.heap.size g n (l ++ [p, p, p]) ∧ Below w.heap.size w w' := by
  obtain ⟨kd, m, t⟩ := p
  have H := Lib.hid h
  have hle := h.le
  have HA := Lib.hid hA
  clear h hA
  obtain ⟨i0, hi, hz0, hz1, hz2⟩ := info_parts Try.info_part
  obtain ⟨N, hNn⟩ : ∃ N, n + 3 = N := ⟨_, rfl⟩
  have hN : (n : Int) + 3 = (N : Int) := by omega
  have HN := Lib.hid hN
  have HNn := Lib.hid hNn
  clear hN hNn
  unfold pval
  go_enter Try.func25, Try.ntmps25
  go_wp2_with (first
    | (at_make; refine wpList_make_own _ rfl _ _ 27 rfl w.heap.size 45 i0 _ 3 Try.underlying27 hi hz0 hz1 _ _ _ N rfl rfl HN.out (by rw [hz2]; have := HNn.out; omega) (by simp only [maxLen]; have := HNn.out; omega) (by simp) ?_; intro w2 hown2 hg2; simp only [World.size_alloc] at hown2)
    | (at_builtin; refine wpList_app_room _ rfl (.tmp 10) (.tmp 11) rfl w.heap.size _ N rfl hown2 A n c _ l rfl ((H.out.stepA _).step (below_grown hg2 (Nat.le_refl _) (by simp))) HA.out (by have := HNn.out; omega) ?_; intro w3 hown3 hg3))
  have hx := (((Blk.new w 45 #[.int .i64 kd, .int .i64 m, .string t]).grown hg2 (by simp)).grown hg3 (by simp))
  have hb3 : Below w.heap.size w w3 := ((Below.refl w.heap.size w).alloc (Nat.le_refl _) _).trans ((below_grown hg2 (by simp) (by simp)).trans (below_grown hg3 (by have := hg2.size; simp at this; omega) (by simp)))
  obtain ⟨cs0, hB0, hS0, hT0⟩ : ∃ cs : Array Value, Blk w3 (w.heap.size + 1) 45 cs ∧ cs.size = N * 3 ∧ cs.toList.take (n * 3) = pc l := by
    rcases hown3.2 with ⟨h', _⟩ | ⟨g', cap', cur, h', hb, hg, hnc, hcm, hcs, htake⟩
    · simp at h'
    · simp only [Value.slice.injEq, Option.some.injEq, Addr.mk.injEq, and_true, true_and] at h'
      obtain ⟨rfl, rfl⟩ := h'
      exact ⟨cur, hg, hcs, htake⟩
  have hg1 : w.heap.size ≤ w.heap.size + 1 := by omega
  have hxg : w.heap.size ≠ w.heap.size + 1 := by omega
  clear hown2 hown3 hg2 hg3 w2 hi hz0 hz1 hz2
  obtain ⟨g, hg⟩ : ∃ g, w.heap.size + 1 = g := ⟨_, rfl⟩
  obtain ⟨x, hx0⟩ : ∃ x, w.heap.size = x := ⟨_, rfl⟩
  rw [hg] at hB0 hg1 hxg ⊢
  rw [hx0] at hx hxg hb3 hg1 ⊢
  have HX := Lib.hid hx
  have HB := Lib.hid hB0
  have HS := Lib.hid hS0
  have HT := Lib.hid hT0
  have H3 := Lib.hid hb3
  clear hx hB0 hS0 hT0 hb3 hg
  go_loopw [6, 13] (fun uv iv wr => ∃ (k : Nat) (cs : Array Value), k ≤ 3 ∧ iv = .int .i64 k ∧ Hid (cs.size = N * 3) ∧ Hid (cs.toList.take ((n + k) * 3) = pc (l ++ List.replicate k (kd, m, t))) ∧ Hid (Blk wr g 45 cs) ∧ Hid (Blk wr x 45 #[.int .i64 kd, .int .i64 m, .string t]) ∧ Hid (Below x w wr)) (fun _ iv _ => 3 - (intOf iv).toNat)
  case atStart => exact ⟨0, cs0, by omega, rfl, HS, Lib.hid (by simpa using HT.out), HB, HX, H3⟩
  case round =>
    obtain ⟨k, cs, hk, rfl, hcs, hct, hgb, hxb, hbw⟩ := hrel
    by_cases hlt2 : k < 3
    · have hkc : (k : Int) < 3 := by omega
      have hk0 : (0 : Int) ≤ (k : Int) := by omega
      have hn3 := HNn.out
      obtain ⟨j, hj⟩ : ∃ j, n + k = j := ⟨_, rfl⟩
      have hsz := hcs.out
      have hjN : j < N := by omega
      have a0 := hgb.out.cell (j * 3)
      have a1 := hgb.out.cell (j * 3 + 1)
      have a2 := hgb.out.cell (j * 3 + 2)
      obtain ⟨v0, e0⟩ : ∃ v, cs[j * 3]? = some v := ⟨cs[j * 3]'(by omega), Array.getElem?_eq_getElem (by omega)⟩
      obtain ⟨v1, e1⟩ : ∃ v, cs[j * 3 + 1]? = some v := ⟨cs[j * 3 + 1]'(by omega), Array.getElem?_eq_getElem (by omega)⟩
      obtain ⟨v2, e2⟩ : ∃ v, cs[j * 3 + 2]? = some v := ⟨cs[j * 3 + 2]'(by omega), Array.getElem?_eq_getElem (by omega)⟩
      rw [e0] at a0
      rw [e1] at a1
      rw [e2] at a2
      have f0 := hgb.out.frozen (j * 3)
      have f1 := hgb.out.frozen (j * 3 + 1)
      have f2 := hgb.out.frozen (j * 3 + 2)
      have x0 := hxb.out.cell 0
      have x1 := hxb.out.cell 1
      have x2 := hxb.out.cell 2
      have hxl := hxb.out.lt
      have hgl := hgb.out.lt
      have hw1 : IntKind.i64.wrap ((n : Int) + 3) = (N : Int) := by rw [HN.out]; exact IntWalk.i64_in _ (by omega)
      have hw2 : IntKind.i64.wrap ((n : Int) + (k : Int)) = (j : Int) := by rw [show (n : Int) + (k : Int) = (j : Int) by omega]; exact IntWalk.i64_in _ (by omega)
      have hl1 : (j : Int) < (N : Int) := by omega
      have hl0 : (0 : Int) ≤ (j : Int) := by omega
      have hl2 : (0 : Int) ≤ (N : Int) := by omega
      have Hj := Lib.hid hj
      have hjt : (j : Int).toNat = j := by omega
      have hNt : (N : Int).toNat = N := by omega
      clear e0 e1 e2 hsz hn3 hj
      go_wp2_with fail
      go_region
      go_wp2_with fail
      go_roundw
      case rel =>
        refine ⟨k + 1, ((cs.setIfInBounds (j * 3) (.int .i64 kd)).setIfInBounds (j * 3 + 1) (.int .i64 m)).setIfInBounds (j * 3 + 2) (.string t), by omega, by go_num, Lib.hid (by simpa using hcs.out), ?_, ?_, ?_, ?_⟩
        · have h1 := room_step cs (l ++ List.replicate k (kd, m, t)) j N kd m t hcs.out hjN (by rw [← Hj.out]; exact hct.out)
          rw [← Hj.out] at h1 ⊢
          rw [List.replicate_succ', ← List.append_assoc]
          exact Lib.hid h1
        · exact Lib.hid ((((hgb.out.set_ _ _).set_ _ _).set_ _ _).drew)
        · exact Lib.hid ((((hxb.out.far hxg _).far hxg _).far hxg _).drew)
        · exact Lib.hid ((((hbw.out.setCell (p := ⟨g, j * 3, none⟩) hg1 _).setCell (p := ⟨g, j * 3 + 1, none⟩) hg1 _).setCell (p := ⟨g, j * 3 + 2, none⟩) hg1 _).drew)
      case measure => simp [intOf]; omega
    · obtain rfl : k = 3 := by omega
      go_wp2_with fail
      go_ret
      have hn3 := HNn.out
      have hc3 := hct.out
      rw [hn3] at hc3
      subst hn3
      subst hx0
      refine ⟨g, rfl, ⟨hg1, cs, hgb.out, hcs.out, ?_⟩, hbw.out⟩
      rw [List.take_of_length_le (by rw [Array.length_toList, hcs.out]; omega)] at hc3
      exact hc3
end Go.Proofs.Ytfncpcmaplhojaa
namespace Go.Proofs.Ytfncpcmaplhojaa
open Go.ChangeShapes Go.WideShapes Go.RowKit
set_option linter.unusedVariables false
set_option linter.unusedSimpArgs false
set_option maxRecDepth 100000
set_option maxHeartbeats 4000000

def mk9 : Pt := (9, 0, ⟨#[109, 97, 114, 107]⟩)
theorem mark_any (w : World) :
    Calls Try.prog 26 #[] w fun e w' => e = .returned (pval mk9) ∧ Below w.heap.size w w' := by
  unfold pval mk9
  go_enter Try.func26, Try.ntmps26
  go_wp2_with fail
  exact bodyPost_ret (v := .agg #[.int .i64 9, .int .i64 0, .string ⟨#[109, 97, 114, 107]⟩]) (by simp [results, Try.results26, go_sem]) rfl ⟨rfl, (Below.refl _ _).alloc (Nat.le_refl _) _⟩
theorem filled_any (l : List Pt) (g n B : Nat) (w : World) (h : Room w B g n (l ++ [mk9, mk9, mk9])) (hn : l.length = n) (hn2 : n ≤ 4398046511104) :
    Calls Try.prog 28 #[.slice (some ⟨g, 0, none⟩) n (n + 3)] w fun e w' => e = .returned (.bool true) ∧ Below w.heap.size w w' := by
  obtain ⟨hBg, cs, hgb, hcs, hct⟩ := h
  have hlt := hgb.lt
  have hca : ∀ k, k < 3 → w.cell? ⟨g, n * 3 + k * 3, none⟩ = some (.int .i64 9) ∧ w.cell? ⟨g, n * 3 + k * 3 + 1, none⟩ = some (.int .i64 0) ∧ w.cell? ⟨g, n * 3 + k * 3 + 2, none⟩ = some (.string ⟨#[109, 97, 114, 107]⟩) := by
    intro k hk
    subst hn
    have e : ∀ i, w.cell? ⟨g, i, none⟩ = (pc (l ++ [mk9, mk9, mk9]))[i]? := by
      intro i
      rw [hgb.cell i, ← hct, Array.getElem?_toList]
    have hl : l.length + k < (l ++ [mk9, mk9, mk9]).length := by simp; omega
    have h1 := pc_at (l ++ [mk9, mk9, mk9]) (l.length + k) hl
    have h2 : (l ++ [mk9, mk9, mk9])[l.length + k]'hl = mk9 := by
      have h3 : (l ++ [mk9, mk9, mk9])[l.length + k]? = some mk9 := by
        rw [List.getElem?_append_right (by omega), Nat.add_sub_cancel_left]
        match k, hk with
        | 0, _ => rfl
        | 1, _ => rfl
        | 2, _ => rfl
      rw [List.getElem?_eq_getElem hl] at h3
      exact Option.some.inj h3
    rw [h2, Nat.add_mul] at h1
    rw [e, e, e]
    exact h1
  have Hca := Lib.hid hca
  have Hn := Lib.hid hn
  obtain ⟨N, hN⟩ : ∃ N, n + 3 = N := ⟨_, rfl⟩
  rw [hN]
  have hnN : (n : Int) ≤ (N : Int) := by omega
  have hN0 : (0 : Int) ≤ (N : Int) := by omega
  have hn0 : (0 : Int) ≤ (n : Int) := by omega
  have hN3 : N - n = 3 := by omega
  have HN := Lib.hid hN
  clear hN hca hn hgb hcs hct
  go_enter Try.func28, Try.ntmps28
  go_wp2_with fail
  go_loopw [4, 12] (fun yv iv wr => ∃ (k : Nat), k ≤ 3 ∧ iv = .int .i64 k ∧ Hid (Below w.heap.size w wr)) (fun _ iv _ => 3 - (intOf iv).toNat)
  case atStart => exact ⟨0, by omega, rfl, Lib.hid (Below.refl _ _)⟩
  case round =>
    obtain ⟨k, hk, rfl, hbw⟩ := hrel
    by_cases hlt2 : k < 3
    · have hkc : (k : Int) < 3 := by omega
      have hk0 : (0 : Int) ≤ (k : Int) := by omega
      obtain ⟨a0, a1, a2⟩ := Hca.out k hlt2
      rw [← hbw.out.cell hlt] at a0 a1 a2
      have hgl : g < wr.heap.size := Nat.lt_of_lt_of_le hlt hbw.out.size
      go_wp2_with fail
      have hy := Blk.new wr 45 #[.int .i64 9, .int .i64 0, .string ⟨#[109, 97, 114, 107]⟩]
      have hb4 : Below w.heap.size w (wr.alloc (.cells #[.int .i64 9, .int .i64 0, .string ⟨#[109, 97, 114, 107]⟩] 45)) := hbw.out.alloc hbw.out.size _
      clear a0 a1 a2
      obtain ⟨W4, hW4⟩ : ∃ W4, wr.alloc (.cells #[.int .i64 9, .int .i64 0, .string ⟨#[109, 97, 114, 107]⟩] 45) = W4 := ⟨_, rfl⟩
      obtain ⟨y, hy0⟩ : ∃ y, wr.heap.size = y := ⟨_, rfl⟩
      rw [hW4] at hy hb4 ⊢
      rw [hy0] at hy ⊢
      have HB4 := Lib.hid hb4
      have hyl := hy.lt
      have KeepS := Lib.hid (fun (w' : World) (h : Below W4.heap.size W4 w') => (⟨h, by rw [h.cell hyl]; exact hy.cell 0, by rw [h.cell hyl]; exact hy.cell 1, by rw [h.cell hyl]; exact hy.cell 2, Nat.lt_of_lt_of_le hyl h.size⟩ : Below W4.heap.size W4 w' ∧ w'.cell? ⟨y, 0, none⟩ = some (.int .i64 9) ∧ w'.cell? ⟨y, 1, none⟩ = some (.int .i64 0) ∧ w'.cell? ⟨y, 2, none⟩ = some (.string ⟨#[109, 97, 114, 107]⟩) ∧ y < w'.heap.size))
      have G := Lib.hid (fun (w' : World) (h : Below W4.heap.size W4 w' ∧ w'.cell? ⟨y, 0, none⟩ = some (.int .i64 9) ∧ w'.cell? ⟨y, 1, none⟩ = some (.int .i64 0) ∧ w'.cell? ⟨y, 2, none⟩ = some (.string ⟨#[109, 97, 114, 107]⟩) ∧ y < w'.heap.size) => (mark_any w').mono (R' := fun e w'' => e = .returned (.agg #[.int .i64 9, .int .i64 0, .string ⟨#[109, 97, 114, 107]⟩]) ∧ (Below W4.heap.size W4 w'' ∧ w''.cell? ⟨y, 0, none⟩ = some (.int .i64 9) ∧ w''.cell? ⟨y, 1, none⟩ = some (.int .i64 0) ∧ w''.cell? ⟨y, 2, none⟩ = some (.string ⟨#[109, 97, 114, 107]⟩) ∧ y < w''.heap.size)) (fun e w'' hh => ⟨hh.1, KeepS.out _ (h.1.trans (hh.2.mono h.1.size))⟩))
      have hS4 := KeepS.out W4 (Below.refl _ _)
      clear hy hy0 hW4 hyl hb4
      go_region_held3 (fun w' => Below W4.heap.size W4 w' ∧ w'.cell? ⟨y, 0, none⟩ = some (.int .i64 9) ∧ w'.cell? ⟨y, 1, none⟩ = some (.int .i64 0) ∧ w'.cell? ⟨y, 2, none⟩ = some (.string ⟨#[109, 97, 114, 107]⟩) ∧ y < w'.heap.size) (first | with_reducible assumption | exact KeepS.out _ (Below.drew (Below.refl _ _)) | exact KeepS.out _ (by assumption) | exact KeepS.out _ (Below.drew (by assumption)) | exact KeepS.out _ (Below.drew (Below.refl _ _)) | (go_split_ands; exact KeepS.out _ (by assumption)))
        ((go_at_call 26; with_reducible refine (G.out _ (by assumption)).mono ?_; rintro e w9 ⟨rfl, hS9⟩))
      go_wp2_with fail
      have hS9' : Below W4.heap.size W4 w9 ∧ w9.cell? ⟨y, 0, none⟩ = some (.int .i64 9) ∧ w9.cell? ⟨y, 1, none⟩ = some (.int .i64 0) ∧ w9.cell? ⟨y, 2, none⟩ = some (.string ⟨#[109, 97, 114, 107]⟩) ∧ y < w9.heap.size := by assumption
      go_roundw
      case rel => exact ⟨k + 1, by omega, by go_num, Lib.hid (HB4.out.trans (hS9'.1.mono HB4.out.size))⟩
      case measure => simp [intOf]; omega
    · obtain rfl : k = 3 := by omega
      go_wp2_with fail
      go_ret
      exact ⟨rfl, hbw.out⟩
end Go.Proofs.Ytfncpcmaplhojaa
namespace Go.Proofs.Ytfncpcmaplhojaa
open Go.ChangeShapes Go.WideShapes Go.RowKit
set_option linter.unusedVariables false
set_option linter.unusedSimpArgs false
set_option maxRecDepth 100000
set_option maxHeartbeats 4000000

/-- append of a slice of parts to a row of the call's own -/
theorem wpList_app_partsC {ops : Array Oper} {rest : List Oper} {o : Oper} {a : Act} {Q : Exit → Act → World → Prop} (w : World) (hgd : o.guard = none) (s x : Operand)
    (ho : o.op = .call { callee := .builtin .append, args := #[s, x], argTypes := #[27, 27] })
    (B : Nat) (v : Value) (l : List Pt) (hs : a.eval s = v) (hown : OwnP w B v l)
    (A : Option Addr) (m c B' : Nat) (l' : List Pt) (hx : a.eval x = .slice A m c) (hr : RdP w B' A m c l')
    (hn : l.length + m ≤ 4000000) (hB : B ≤ w.heap.size)
    (h : ∀ v' w', OwnP w' B v' (l ++ l') → Below B w w' → wpList Try.prog ops Q rest (a.put o.dst v') w') :
    wpList Try.prog ops Q (o :: rest) a w := by
  obtain ⟨i0, hi, hz0, hz1, hz2⟩ := info_parts Try.info_part
  refine wpList_append_any w hgd s x 27 ho B 45 i0 _ 3 32 Try.underlying27 hi hz0 hz1 hz2 rfl (by omega) v _ _ hs hown B' A m c (pc l') hx ?_ ?_ (by simp only [maxLen]; omega) (by omega) hB ?_
  · refine ⟨by rw [pc_len, hr.1], fun h0 => ?_⟩
    obtain ⟨b, o', e, hb, hc⟩ := hr.2.1.2.2.2 h0
    refine ⟨_, e, hb, fun j u hj => ?_⟩
    have := hc j u hj
    by_cases h00 : j = 0
    · subst h00; simpa [Addr.add] using this
    · simpa [Addr.add, h00] using this
  · intro u hu
    unfold pc at hu
    obtain ⟨p, _, hp⟩ := List.mem_flatMap.1 hu
    simp only [pcells, List.mem_cons, List.not_mem_nil, or_false] at hp
    rcases hp with rfl | rfl | rfl <;> rfl
  · intro v' w' h2 h3 h4
    exact h v' w' (by unfold OwnP; rw [pc_append, List.length_append, ← hr.1]; exact h2) (below_grown h3 hB (own_ge hown))
theorem eqlP_nil (w : World) (a : Option Addr) (l c : Nat) : (binOp .eql 27 (.slice a l c) (.slice none 0 0)).run Try.prog w = .ok (.bool a.isNone) w := by
  simp [binOp, run_equal_slice_nil w 27 45 a l c Try.underlying27]
theorem cloneP_nil (w : World) (n c : Nat) :
    Calls Try.prog 36 #[.slice none n c] w fun e w' => e = .returned (.slice none 0 0) ∧ w' = w := by
  go_enter Try.func36, Try.ntmps36
  have hq := eqlP_nil w none n c
  go_wp2_with fail
  go_ret
  exact ⟨rfl, rfl⟩
theorem cloneP_some (l : List Pt) (a : Addr) (n c : Nat) (w : World) (h : RdP w w.heap.size (some a) n c l) (hn : n ≤ 4000000) :
    Calls Try.prog 36 #[.slice (some a) n c] w fun e w' => ∃ v, e = .returned v ∧ OwnP w' w.heap.size v l ∧ Below w.heap.size w w' := by
  have H := Lib.hid h
  clear h
  go_enter Try.func36, Try.ntmps36
  have hq := eqlP_nil w (some a) n c
  have ho : OwnP (w.alloc (.cells #[] 45)) w.heap.size (.slice (some ⟨w.heap.size, 0, none⟩) 0 0) [] := World.ownsRow_made w #[] 0 (Nat.le_refl _) (by decide) rfl
  have Ho := Lib.hid ho
  have hr := H.out.alloc (Nat.le_refl _) (.cells #[] 45)
  have Hr := Lib.hid hr
  have hB : w.heap.size ≤ (w.alloc (.cells #[] 45)).heap.size := by simp
  have hn0 : ([] : List Pt).length + n ≤ 4000000 := by simpa using hn
  clear ho hr
  go_wp2_with (first | (at_builtin; go_loud (refine wpList_app_partsC _ rfl (.tmp 5) (.tmp 6) rfl w.heap.size _ [] rfl Ho.out (some a) n c _ l rfl Hr.out hn0 hB ?_; intro v4 w4 k1 k2)))
  go_ret
  rw [List.nil_append] at k1
  exact ⟨_, rfl, k1, ((Below.refl w.heap.size w).alloc (Nat.le_refl _) _).trans k2⟩
theorem cloneP_any (l : List Pt) (A : Option Addr) (n c : Nat) (w : World) (h : RdP w w.heap.size A n c l) (hn : n ≤ 4000000) :
    Calls Try.prog 36 #[.slice A n c] w fun e w' => ∃ v, e = .returned v ∧ OwnP w' w.heap.size v l ∧ Below w.heap.size w w' := by
  cases A with
  | none =>
    have e : l = [] := by
      rw [← List.length_eq_zero_iff, ← h.1]
      by_cases h0 : 0 < n
      · obtain ⟨b, o, e, _⟩ := h.2.1.2.2.2 h0
        cases e
      · omega
    subst e
    refine (cloneP_nil w n c).mono ?_
    rintro e w' ⟨rfl, rfl⟩
    exact ⟨_, rfl, OwnP.nil _ _, Below.refl _ _⟩
  | some a => exact cloneP_some l a n c w h hn
/-- a roomy list reads as what it holds -/
theorem Room.rd {w : World} {B g n c0 : Nat} {l m : List Pt} {A : Option Addr} {w0 : World} {B0 : Nat} (h : Room w B g n (l ++ m)) (h0 : RdP w0 B0 A n c0 l) (hn : n ≤ 4398046511104) : RdP w w.heap.size (some ⟨g, 0, none⟩) n (n + 3) l := by
  obtain ⟨_, cs, hb, hs, hc⟩ := h
  refine ⟨h0.1, ⟨by omega, by unfold maxLen; omega, h0.2.1.2.2.1, fun _ => ⟨g, 0, rfl, hb.lt, fun j u hj => ?_⟩⟩, h0.2.2⟩
  rw [Nat.zero_add, hb.cell j]
  have h1 : (pc (l ++ m))[j]? = some u := by
    rw [pc_append, List.getElem?_append_left (List.getElem?_eq_some_iff.1 hj).1]
    exact hj
  rw [← hc, Array.getElem?_toList] at h1
  exact h1
theorem Room.only {w w' : World} {B g n : Nat} {l : List Pt} {S : Nat → Prop} (h : Room w B g n l) (ho : Only w w' S) (hg : ¬ S g) : Room w' B g n l := by
  obtain ⟨hB, cs, hb, hs, hc⟩ := h
  exact ⟨hB, cs, hb.only ho hg, hs, hc⟩
theorem Room.step {w w' : World} {B g n : Nat} {l : List Pt} (h : Room w B g n l) (hb : Below w.heap.size w w') : Room w' B g n l := by
  obtain ⟨hB, cs, hk, hs, hc⟩ := h
  exact ⟨hB, cs, hk.below hb hk.lt, hs, hc⟩
theorem Room.lt {w : World} {B g n : Nat} {l : List Pt} (h : Room w B g n l) : g < w.heap.size := by
  obtain ⟨hB, cs, hk, hs, hc⟩ := h
  exact hk.lt
/-- spoil a list with room -/
theorem spoil_room (p : Pt) (g n B : Nat) (l : List Pt) (w : World) (h : Room w B g n l) (hn : n ≤ 4398046511104) :
    Calls Try.prog 29 #[.slice (some ⟨g, 0, none⟩) n (n + 3), pval p] w fun e w' => e = .returned (.tuple #[]) ∧ Only w w' (fun k => k = g) := by
  obtain ⟨hB, cs, hk, hs, hc⟩ := h
  exact spoil_any p g n (n + 3) cs w hk hs (by omega) (by unfold maxLen; omega)
end Go.Proofs.Ytfncpcmaplhojaa
namespace Go.Proofs.Ytfncpcmaplhojaa
open Go.ChangeShapes Go.WideShapes Go.RowKit
set_option linter.unusedVariables false
set_option linter.unusedSimpArgs false
set_option maxRecDepth 100000
set_option maxHeartbeats 4000000

theorem spoil_nil (p : Pt) (w : World) :
    Calls Try.prog 29 #[.slice none 0 0, pval p] w fun e w' => e = .returned (.tuple #[]) ∧ Below w.heap.size w w' := by
  obtain ⟨kd, m, t⟩ := p
  unfold pval
  go_enter Try.func29, Try.ntmps29
  go_wp2_with fail
  have hb := (Below.refl w.heap.size w).alloc (Nat.le_refl _) (.cells #[.int .i64 kd, .int .i64 m, .string t] 45)
  generalize w.alloc (.cells #[.int .i64 kd, .int .i64 m, .string t] 45) = W at *
  go_loopw [4, 11] (fun uv iv wr => iv = .int .i64 0 ∧ Hid (Below w.heap.size w wr)) (fun _ iv _ => 0)
  case atStart => exact ⟨rfl, Lib.hid hb⟩
  case round =>
    obtain ⟨rfl, hbw⟩ := hrel
    go_wp2_with fail
    go_end0
    exact ⟨rfl, hbw.out⟩
theorem spoil_own (p : Pt) (v : Value) (l : List Pt) (B : Nat) (w : World) (h : OwnP w B v l) :
    Calls Try.prog 29 #[v, pval p] w fun e w' => e = .returned (.tuple #[]) ∧ Only w w' (fun k => v.ownBlock = some k) := by
  rcases h.2 with ⟨rfl, h0⟩ | ⟨g, cap, cur, rfl, hb, hg, hnc, hcm, hcs, htake⟩
  · clear h0
    refine (spoil_nil p w).mono ?_
    rintro e w' ⟨rfl, hb⟩
    exact ⟨rfl, Only.of_below hb⟩
  · refine (spoil_any p g l.length cap cur w hg hcs hnc hcm).mono ?_
    rintro e w' ⟨rfl, ho⟩
    exact ⟨rfl, ho.mono fun k _ hk => by subst hk; rfl⟩
/-- a list of parts as it came in, nil where it has no place -/
def IsPartsN (w : World) (v : Value) (l : List Pt) : Prop := ∃ A n c, v = .slice A n c ∧ RdP w w.heap.size A n c l ∧ n ≤ 4398046511104 ∧ (A = none → c = 0)
end Go.Proofs.Ytfncpcmaplhojaa
namespace Go.Proofs.Ytfncpcmaplhojaa
open Go.ChangeShapes Go.WideShapes Go.RowKit
set_option linter.unusedVariables false
set_option linter.unusedSimpArgs false
set_option maxRecDepth 100000
set_option maxHeartbeats 4000000

/-- a Walker at block g: of the parts l the first has been taken by 'used' -/
def Wk (w : World) (B g : Nat) (l : List Pt) (used : Nat) : Prop :=
  B ≤ g ∧ ∃ A n c, Blk w g 190 #[.slice A n c, .int .i64 used] ∧ RdP w B A n c l ∧ WOk l used ∧ ∀ p ∈ l, fitE p = 0
section
variable {w w' : World} {B B' g used : Nat} {l : List Pt} {S : Nat → Prop}
theorem Wk.lt (h : Wk w B g l used) : g < w.heap.size := by obtain ⟨_, A, n, c, hb, _⟩ := h; exact hb.lt
theorem Wk.ok (h : Wk w B g l used) : WOk l used := by obtain ⟨_, A, n, c, _, _, h, _⟩ := h; exact h
theorem Wk.fit (h : Wk w B g l used) : ∀ p ∈ l, fitE p = 0 := by obtain ⟨_, A, n, c, _, _, _, h⟩ := h; exact h
theorem Wk.only (h : Wk w B g l used) (ho : Only w w' S) (h1 : ¬ S g) (h2 : Below B w w') : Wk w' B g l used := by
  obtain ⟨hg, A, n, c, hb, hr, hk⟩ := h
  exact ⟨hg, A, n, c, hb.only ho h1, hr.below h2, hk⟩
theorem Wk.alloc (h : Wk w B g l used) (hB : B ≤ w.heap.size) (o : Obj) : Wk (w.alloc o) B g l used := by
  obtain ⟨hg, A, n, c, hb, hr, hk⟩ := h
  exact ⟨hg, A, n, c, hb.alloc o, hr.alloc hB o, hk⟩
theorem Wk.drewN (h : Wk w B g l used) (q : Nat) : Wk (w.drewN q) B g l used := by
  obtain ⟨hg, A, n, c, hb, hr, hk⟩ := h
  exact ⟨hg, A, n, c, hb.drewN q, hr.drewN q, hk⟩
end
theorem walk_any (l : List Pt) (A : Option Addr) (n c B : Nat) (w : World) (h : RdP w B A n c l) (hB : B ≤ w.heap.size) (hk : chk l = 0) :
    Calls Try.prog 88 #[.slice A n c] w fun e w' => e = .returned (.pointer (some ⟨w.heap.size, 0, none⟩)) ∧ Wk w' B w.heap.size l 0 ∧ Below w.heap.size w w' ∧ w'.heap.size = w.heap.size + 1 := by
  have hr := h.alloc hB (.cells #[.slice A n c, .int .i64 0] 190)
  have hw : Wk (w.alloc (.cells #[.slice A n c, .int .i64 0] 190)) B w.heap.size l 0 := by
    refine ⟨hB, A, n, c, Blk.new w _ _, hr, ⟨(chk_parts hk).2.2.1, fun _ => rfl, fun p r e => ?_⟩, (chk_parts hk).2.2.2.2.2⟩
    have hs := (chk_parts hk).2.2.1 p (by rw [e]; simp)
    unfold lenP
    rcases hs with ⟨h1, h2, h3⟩ | ⟨h1, h2, h3⟩
    · rw [if_neg (by omega)]; omega
    · rw [if_pos h1]; omega
  have Hw := Lib.hid hw
  clear h hr hw
  go_enter Try.func88, Try.ntmps88
  go_wp2_with fail
  go_ret
  exact ⟨rfl, Hw.out, (Below.refl _ _).alloc (Nat.le_refl _) _, by simp⟩
/-- the first part's cells -/
theorem Wk.first {w : World} {B g used : Nat} {p : Pt} {r : List Pt} (h : Wk w B g (p :: r) used) : ∃ b o c, Blk w g 190 #[.slice (some ⟨b, o, none⟩) (r.length + 1) c, .int .i64 used] ∧ r.length + 1 ≤ c ∧ c ≤ maxLen ∧ b < B ∧ RdP w B (some ⟨b, o, none⟩) (r.length + 1) c (p :: r) ∧
    w.cell? ⟨b, o, none⟩ = some (.int .i64 p.1) ∧ w.cell? ⟨b, o + 1, none⟩ = some (.int .i64 p.2.1) ∧ w.cell? ⟨b, o + 2, none⟩ = some (.string p.2.2) := by
  obtain ⟨_, A, n, c, hb, hr, hk⟩ := h
  obtain rfl : n = r.length + 1 := hr.1
  obtain ⟨b, o, rfl, h1, h2, h3, h4⟩ := hr.at_ 0 (by omega)
  rw [Nat.zero_mul, Nat.add_zero] at h2 h3 h4
  exact ⟨b, o, c, hb, hr.2.1.1, hr.2.1.2.1, h1, hr, h2, h3, h4⟩
theorem wkind_any (l : List Pt) (used B g : Nat) (w : World) (h : Wk w B g l used) :
    Calls Try.prog 89 #[.pointer (some ⟨g, 0, none⟩)] w fun e w' => e = .returned (.int .i64 (hk l)) ∧ w = w' := by
  rcases l with _ | ⟨p, r⟩
  · obtain ⟨_, A, n, c, hb, hr, _⟩ := h
    obtain rfl : n = 0 := hr.1
    have c0 := hb.cell 0
    clear hb hr
    go_enter Try.func89, Try.ntmps89
    go_wp2_with fail
    go_ret
    exact ⟨rfl, rfl⟩
  · obtain ⟨b, o, c, hb, h1, h2, h3, hrd, d0, d1, d2⟩ := h.first
    obtain ⟨kd, m, t⟩ := p
    have c0 := hb.cell 0
    simp only at d0 d1 d2
    clear hb hrd
    have hm : r.length + 1 ≤ 9223372036854775807 := by unfold maxLen at h2; omega
    clear h
    go_enter Try.func89, Try.ntmps89
    go_wp2_with fail
    go_ret
    exact ⟨rfl, rfl⟩
theorem wsize_raw (p : Pt) (b o c m' g : Nat) (u : Value) (w : World) (hb : Blk w g 190 #[.slice (some ⟨b, o, none⟩) (m' + 1) c, u]) (h1 : m' + 1 ≤ c) (h2 : c ≤ maxLen) (hfp : fitE p = 0)
    (d0 : w.cell? ⟨b, o, none⟩ = some (.int .i64 p.1)) (d1 : w.cell? ⟨b, o + 1, none⟩ = some (.int .i64 p.2.1)) (d2 : w.cell? ⟨b, o + 2, none⟩ = some (.string p.2.2)) :
    Calls Try.prog 109 #[.pointer (some ⟨g, 0, none⟩)] w fun e w' => e = .returned (.int .i64 (lenP p)) ∧ w = w' := by
  have hf := fit_bounds p hfp
  obtain ⟨kd, m, t⟩ := p
  have c0 := hb.cell 0
  simp only at d0 d1 d2 hf
  clear hb hfp
  have hm : m' + 1 ≤ 9223372036854775807 := by unfold maxLen at h2; omega
  rcases hf with ⟨rfl | rfl, hf1, hf2, rfl⟩ | ⟨rfl, rfl, hf1, hf2⟩
  · have e1 : ((lenP (1, m, emp) : Nat) : Int) = m := by show ((m.toNat : Nat) : Int) = m; omega
    rw [e1]
    clear e1
    go_enter Try.func109, Try.ntmps109
    go_wp2_with fail
    go_ret
    exact ⟨rfl, rfl⟩
  · have e1 : ((lenP (3, m, emp) : Nat) : Int) = m := by show ((m.toNat : Nat) : Int) = m; omega
    rw [e1]
    clear e1
    go_enter Try.func109, Try.ntmps109
    go_wp2_with fail
    go_ret
    exact ⟨rfl, rfl⟩
  · have e1 : ((lenP (2, 0, t) : Nat) : Int) = t.size := rfl
    rw [e1]
    clear e1
    go_enter Try.func109, Try.ntmps109
    go_wp2_with fail
    go_ret
    exact ⟨rfl, rfl⟩
theorem wsize_any (p : Pt) (r : List Pt) (used B g : Nat) (w : World) (h : Wk w B g (p :: r) used) :
    Calls Try.prog 109 #[.pointer (some ⟨g, 0, none⟩)] w fun e w' => e = .returned (.int .i64 (lenP p)) ∧ w = w' := by
  obtain ⟨b, o, c, hb, h1, h2, h3, hrd, d0, d1, d2⟩ := h.first
  exact wsize_raw p b o c _ g _ w hb h1 h2 (h.fit p (by simp)) d0 d1 d2
def WS (w0 w : World) : Prop := ∃ q, w = w0.drewN q
theorem WS.refl (w : World) : WS w w := ⟨0, rfl⟩
theorem WS.drew {a b : World} (h : WS a b) : WS a b.drew := by obtain ⟨q, rfl⟩ := h; exact ⟨q + 1, rfl⟩
theorem WS.wk {a b : World} {B g used : Nat} {l : List Pt} (h : Wk a B g l used) (hs : WS a b) : Wk b B g l used := by obtain ⟨q, rfl⟩ := hs; exact h.drewN q
theorem lenP_fit {p : Pt} (h : fitE p = 0) : lenP p ≤ 500 := by
  rcases fit_bounds p h with ⟨h1, h2, h3, h4⟩ | ⟨h1, h2, h3, h4⟩
  · unfold lenP; rw [if_neg (by omega)]; omega
  · unfold lenP; rw [if_pos h1]; omega
theorem wleft_any (p : Pt) (r : List Pt) (used B g : Nat) (w : World) (h : Wk w B g (p :: r) used) :
    Calls Try.prog 90 #[.pointer (some ⟨g, 0, none⟩)] w fun e w' => e = .returned (.int .i64 ((lenP p - used : Nat) : Int)) ∧ WS w w' := by
  have hl := lenP_fit (h.fit p (by simp))
  have hu := h.ok.2.2 p r rfl
  obtain ⟨N, hN⟩ : ∃ N, lenP p = N := ⟨_, rfl⟩
  have hcall : ∀ b, WS w b → Calls Try.prog 109 #[.pointer (some ⟨g, 0, none⟩)] b fun e w' => e = .returned (.int .i64 (N : Int)) ∧ b = w' := by
    intro b hb
    have := wsize_any p r used B g b (hb.wk h)
    rwa [hN] at this
  rw [hN] at hl hu ⊢
  have hcell : w.cell? ⟨g, 1, none⟩ = some (.int .i64 used) := by obtain ⟨_, A, n, c, hb, _⟩ := h; exact hb.cell 1
  have Hcall := Lib.hid hcall
  have hwr : IntKind.i64.wrap ((N : Int) - (used : Int)) = (N : Int) - (used : Int) := IntWalk.i64_in _ (by omega)
  have hsub : ((N - used : Nat) : Int) = (N : Int) - (used : Int) := by omega
  rw [hsub]
  clear hcall h hsub hN
  go_enter Try.func90, Try.ntmps90
  go_wp2_with fail
  go_region_held3 (fun w' => WS w w' ∧ w'.cell? ⟨g, 1, none⟩ = some (.int .i64 used)) (first | assumption | exact ⟨WS.drew (WS.refl _), by assumption⟩ | exact ⟨WS.drew (by assumption), by assumption⟩)
    ((first | (go_at_call 109; refine (Hcall.out _ (And.left (by assumption))).mono ?_; rintro e w9 ⟨rfl, rfl⟩)))
  all_goals
    go_wp2_with fail
    go_ret
    exact ⟨rfl, WS.drew (WS.refl _)⟩
/-- the rest of a slice of parts -/
theorem RdP.tail {w : World} {B b o c : Nat} {p : Pt} {r : List Pt} (h : RdP w B (some ⟨b, o, none⟩) (r.length + 1) c (p :: r)) : RdP w B (some ⟨b, o + 3, none⟩) r.length (c - 1) r := by
  obtain ⟨h1, ⟨h2, h3, h4, h5⟩, h6⟩ := h
  refine ⟨rfl, ⟨by omega, by omega, pc_len r, fun hn => ?_⟩, fun q hq => h6 q (by simp [hq])⟩
  obtain ⟨b', o', e, hb, hc⟩ := h5 (by omega)
  injection e with e
  injection e with e1 e2
  subst e1 e2
  refine ⟨b, o + 3, rfl, hb, fun j u hj => ?_⟩
  have := hc (j + 3) u (by
    unfold pc at hj ⊢
    rw [List.flatMap_cons, List.getElem?_append_right (by simp [pcells])]
    simpa [pcells] using hj)
  rwa [show o + 3 + j = o + (j + 3) by omega]
theorem RdP.none_ {w : World} {B c : Nat} {A : Option Addr} (hc : c ≤ maxLen) : RdP w B A 0 c [] := ⟨rfl, ⟨by omega, hc, rfl, fun h => absurd h (by omega)⟩, by simp⟩
theorem take_last {w W1 : World} {g : Nat} {s u : Value} (K1 : Blk W1 g 190 #[s, u]) (O1 : Only w W1 (fun k => k = g)) (x : Value) :
    Blk ((W1.setCell ⟨g, 0, none⟩ x).setCell ⟨g, 1, none⟩ (.int .i64 0)).drew g 190 #[x, .int .i64 0] ∧ Only w ((W1.setCell ⟨g, 0, none⟩ x).setCell ⟨g, 1, none⟩ (.int .i64 0)).drew (fun k => k = g) :=
  ⟨((K1.set_ 0 _).set_ 1 _).drew, ((O1.trans (Only.setSelf _ _ _ _)).trans (Only.setSelf _ _ _ _)).trans (Only.drew _)⟩
/-- what is taken -/
def tk (p : Pt) (used n : Nat) : ByteArray := if p.1 = 2 then p.2.2.extract used (used + n) else ⟨#[]⟩
theorem wtake_any (p : Pt) (r : List Pt) (used n B g : Nat) (w : World) (h : Wk w B g (p :: r) used) (hn : used + n ≤ lenP p) :
    Calls Try.prog 91 #[.pointer (some ⟨g, 0, none⟩), .int .i64 n] w fun e w' => e = .returned (.string (tk p used n)) ∧ Wk w' B g (adv (p :: r) used n).1 (adv (p :: r) used n).2 ∧ Only w w' (fun k => k = g) := by
  have hl := lenP_fit (h.fit p (by simp))
  obtain ⟨b, o, c, hb, h1, h2, h3, hrd, d0, d1, d2⟩ := h.first
  have hfit := h.fit p (by simp)
  have hg := h.1
  have hbg : g ≠ b := by omega
  obtain ⟨N, hN⟩ : ∃ N, lenP p = N := ⟨_, rfl⟩
  have hcall : ∀ w', Blk w' g 190 #[.slice (some ⟨b, o, none⟩) (r.length + 1) c, .int .i64 ((used : Int) + n)] ∧ w'.cell? ⟨b, o, none⟩ = w.cell? ⟨b, o, none⟩ ∧ w'.cell? ⟨b, o + 1, none⟩ = w.cell? ⟨b, o + 1, none⟩ ∧ w'.cell? ⟨b, o + 2, none⟩ = w.cell? ⟨b, o + 2, none⟩ →
      Calls Try.prog 109 #[.pointer (some ⟨g, 0, none⟩)] w' fun e w'' => e = .returned (.int .i64 (N : Int)) ∧ w' = w'' := by
    rintro w' ⟨hb', e0, e1, e2⟩
    have := wsize_raw p b o c _ g _ w' hb' h1 h2 hfit (e0.trans d0) (e1.trans d1) (e2.trans d2)
    rwa [hN] at this
  rw [hN] at hl hn
  have hbd := fit_bounds p hfit
  obtain ⟨kd, m, t⟩ := p
  simp only at d0 d1 d2 hbd
  have c0 := hb.cell 0
  have c1 := hb.cell 1
  have f0 := hb.frozen 0
  have f1 := hb.frozen 1
  have l0 := hb.lt
  have Hb := Lib.hid hb
  have Hcall := Lib.hid hcall
  have HN := Lib.hid hN
  have Hh := Lib.hid h
  have hm : r.length + 1 ≤ 9223372036854775807 := by unfold maxLen at h2; omega
  clear hb hcall hN h h3 hfit
  rcases hbd with ⟨hkd, hf1, hf2, rfl⟩ | ⟨rfl, rfl, hf1, hf2⟩
  · have hk2 : (kd == 2) = false := by simp; omega
    have htk : Hid (tk (kd, m, emp) used n = ⟨#[]⟩) := Lib.hid (by unfold tk; rw [if_neg (by simp only; omega)])
    rw [htk.out]
    clear htk hkd
    have hbel := fun k (hk : k ≠ g) => Below.heap_setCell w ⟨g, 1, none⟩ (.int .i64 ((used : Int) + n)) k hk
    have k1 : Blk (w.setCell ⟨g, 1, none⟩ (.int .i64 ((used : Int) + n))) g 190 #[.slice (some ⟨b, o, none⟩) (r.length + 1) c, .int .i64 ((used : Int) + n)] := Hb.out.set_ 1 (.int .i64 ((used : Int) + n))
    have hB := hbel b (Ne.symm hbg)
    have o1 : Only w (w.setCell ⟨g, 1, none⟩ (.int .i64 ((used : Int) + n))) (fun k => k = g) := Only.setCell _ _ _ rfl
    go_enter Try.func91, Try.ntmps91
    go_wp2_with fail
    generalize w.setCell ⟨g, 1, none⟩ (.int .i64 ((used : Int) + n)) = W1 at *
    have hc1 := k1.cell 1
    have hc0 := k1.cell 0
    have g1 := k1.frozen 1
    have g0 := k1.frozen 0
    have m1 := k1.lt
    have hcallW : ∀ w', WS W1 w' → Calls Try.prog 109 #[.pointer (some ⟨g, 0, none⟩)] w' fun e w'' => e = .returned (.int .i64 (N : Int)) ∧ w' = w'' := by
      rintro w' ⟨q, rfl⟩
      exact Hcall.out _ ⟨k1.drewN q, World.cell?_of_block hB, World.cell?_of_block hB, World.cell?_of_block hB⟩
    have HcallW := Lib.hid hcallW
    have K1 := Lib.hid k1
    have O1 := Lib.hid o1
    clear hbel hB k1 o1 hcallW c0 c1 f0 f1 l0
    go_region_held3 (fun w' => WS W1 w' ∧ w'.cell? ⟨g, 1, none⟩ = some (.int .i64 ((used : Int) + n))) (first | assumption | exact ⟨WS.drew (WS.refl _), by assumption⟩ | exact ⟨WS.drew (by assumption), by assumption⟩)
      ((first | (go_at_call 109; refine (HcallW.out _ (And.left (by assumption))).mono ?_; rintro e w9 ⟨rfl, rfl⟩)))
    all_goals
      by_cases hun : used + n = N
      · have hadv : Hid (adv ((kd, m, emp) :: r) used n = (r, 0)) := Lib.hid (by simp only [adv]; rw [if_pos (by rw [HN.out]; exact hun)])
        have hz : ((used : Int) + n == (N : Int)) = true := by simp; omega
        have h1' : (1 : Int) ≤ (r.length : Int) + 1 := by omega
        by_cases hc : c = 1
        · subst hc
          obtain rfl : r = [] := List.eq_nil_of_length_eq_zero (by omega)
          go_wp2_with fail
          go_ret
          refine ⟨rfl, ?_, (take_last K1.out O1.out _).2⟩
          rw [hadv.out]
          have hok := wok_adv Hh.out.ok (n := n) (by rw [HN.out]; omega)
          rw [hadv.out] at hok
          exact ⟨hg, _, _, _, (take_last K1.out O1.out _).1, (RdP.none_ (by decide)).below ((take_last K1.out O1.out _).2.below (by have := Hh.out.lt; omega) fun k hk => by omega), hok, fun q hq => Hh.out.fit q (by simp_all)⟩
        · go_wp2_with fail
          go_ret
          refine ⟨rfl, ?_, (take_last K1.out O1.out _).2⟩
          rw [hadv.out]
          have hok := wok_adv Hh.out.ok (n := n) (by rw [HN.out]; omega)
          rw [hadv.out] at hok
          exact ⟨hg, _, _, _, (take_last K1.out O1.out _).1, hrd.tail.below ((take_last K1.out O1.out _).2.below (by have := Hh.out.lt; omega) fun k hk => by omega), hok, fun q hq => Hh.out.fit q (by simp_all)⟩
      · have hadv : Hid (adv ((kd, m, emp) :: r) used n = ((kd, m, emp) :: r, used + n)) := Lib.hid (by simp only [adv]; rw [if_neg (by rw [HN.out]; exact hun)])
        have hz : ((used : Int) + n == (N : Int)) = false := by simp; omega
        go_wp2_with fail
        go_ret
        refine ⟨rfl, ?_, O1.out.trans (Only.drew _)⟩
        rw [hadv.out]
        have hok := wok_adv Hh.out.ok (n := n) (by rw [HN.out]; omega)
        rw [hadv.out] at hok
        exact ⟨hg, _, _, _, K1.out.drew, hrd.below ((O1.out.trans (Only.drew _)).below (by have := Hh.out.lt; omega) fun k hk => by omega), hok, Hh.out.fit⟩
  · have htk : Hid (tk (2, 0, t) used n = t.extract used (used + n)) := Lib.hid (by unfold tk; rw [if_pos rfl])
    rw [htk.out]
    clear htk
    have hNt : Hid (N = t.size) := Lib.hid (by rw [← HN.out]; rfl)
    have hunt : used + n ≤ t.size := by have := hNt.out; omega
    have hunt2 : (used : Int) + n ≤ (t.size : Int) := by omega
    have hu0 : (0 : Int) ≤ (used : Int) := by omega
    have hu1 : (used : Int) ≤ (used : Int) + n := by omega
    have hw1 : IntKind.i64.wrap ((used : Int) + n) = (used : Int) + n := IntWalk.i64_in _ (by omega)
    have ht1 : ((used : Int) + n).toNat = used + n := by omega
    go_enter Try.func91, Try.ntmps91
    go_wp2_with fail
    go_quiet (fail)
    have k1 : Blk ((w.drewN nq).setCell ⟨g, 1, none⟩ (.int .i64 ((used : Int) + n))) g 190 #[.slice (some ⟨b, o, none⟩) (r.length + 1) c, .int .i64 ((used : Int) + n)] := (Hb.out.drewN nq).set_ 1 (.int .i64 ((used : Int) + n))
    have hB : ((w.drewN nq).setCell ⟨g, 1, none⟩ (.int .i64 ((used : Int) + n))).heap[b]? = w.heap[b]? := Below.heap_setCell (w.drewN nq) ⟨g, 1, none⟩ (.int .i64 ((used : Int) + n)) b (Ne.symm hbg)
    have o1 : Only w ((w.drewN nq).setCell ⟨g, 1, none⟩ (.int .i64 ((used : Int) + n))) (fun k => k = g) := (Only.drewN w nq).trans (Only.setCell _ _ _ rfl)
    go_wp2_with fail
    generalize (w.drewN nq).setCell ⟨g, 1, none⟩ (.int .i64 ((used : Int) + n)) = W1 at *
    have hc1 := k1.cell 1
    have hc0 := k1.cell 0
    have g1 := k1.frozen 1
    have g0 := k1.frozen 0
    have m1 := k1.lt
    have hcallW : ∀ w', WS W1 w' → Calls Try.prog 109 #[.pointer (some ⟨g, 0, none⟩)] w' fun e w'' => e = .returned (.int .i64 (N : Int)) ∧ w' = w'' := by
      rintro w' ⟨q, rfl⟩
      exact Hcall.out _ ⟨k1.drewN q, World.cell?_of_block hB, World.cell?_of_block hB, World.cell?_of_block hB⟩
    have HcallW := Lib.hid hcallW
    have K1 := Lib.hid k1
    have O1 := Lib.hid o1
    clear hB k1 o1 hcallW c0 c1 f0 f1 l0
    go_region_held3 (fun w' => WS W1 w' ∧ w'.cell? ⟨g, 1, none⟩ = some (.int .i64 ((used : Int) + n))) (first | assumption | exact ⟨WS.drew (WS.refl _), by assumption⟩ | exact ⟨WS.drew (by assumption), by assumption⟩)
      ((first | (go_at_call 109; refine (HcallW.out _ (And.left (by assumption))).mono ?_; rintro e w9 ⟨rfl, rfl⟩)))
    all_goals
      by_cases hun : used + n = N
      · have hadv : Hid (adv ((2, 0, t) :: r) used n = (r, 0)) := Lib.hid (by simp only [adv]; rw [if_pos (by rw [HN.out]; exact hun)])
        have hz : ((used : Int) + n == (N : Int)) = true := by simp; omega
        have h1' : (1 : Int) ≤ (r.length : Int) + 1 := by omega
        by_cases hc : c = 1
        · subst hc
          obtain rfl : r = [] := List.eq_nil_of_length_eq_zero (by omega)
          go_wp2_with fail
          go_ret
          refine ⟨rfl, ?_, (take_last K1.out O1.out _).2⟩
          rw [hadv.out]
          have hok := wok_adv Hh.out.ok (n := n) (by rw [HN.out]; omega)
          rw [hadv.out] at hok
          exact ⟨hg, _, _, _, (take_last K1.out O1.out _).1, (RdP.none_ (by decide)).below ((take_last K1.out O1.out _).2.below (by have := Hh.out.lt; omega) fun k hk => by omega), hok, fun q hq => Hh.out.fit q (by simp_all)⟩
        · go_wp2_with fail
          go_ret
          refine ⟨rfl, ?_, (take_last K1.out O1.out _).2⟩
          rw [hadv.out]
          have hok := wok_adv Hh.out.ok (n := n) (by rw [HN.out]; omega)
          rw [hadv.out] at hok
          exact ⟨hg, _, _, _, (take_last K1.out O1.out _).1, hrd.tail.below ((take_last K1.out O1.out _).2.below (by have := Hh.out.lt; omega) fun k hk => by omega), hok, fun q hq => Hh.out.fit q (by simp_all)⟩
      · have hadv : Hid (adv ((2, 0, t) :: r) used n = ((2, 0, t) :: r, used + n)) := Lib.hid (by simp only [adv]; rw [if_neg (by rw [HN.out]; exact hun)])
        have hz : ((used : Int) + n == (N : Int)) = false := by simp; omega
        go_wp2_with fail
        go_ret
        refine ⟨rfl, ?_, O1.out.trans (Only.drew _)⟩
        rw [hadv.out]
        have hok := wok_adv Hh.out.ok (n := n) (by rw [HN.out]; omega)
        rw [hadv.out] at hok
        exact ⟨hg, _, _, _, K1.out.drew, hrd.below ((O1.out.trans (Only.drew _)).below (by have := Hh.out.lt; omega) fun k hk => by omega), hok, Hh.out.fit⟩
end Go.Proofs.Ytfncpcmaplhojaa
