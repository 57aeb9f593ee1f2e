/- scrivkeep's helpers over room: roomy. -/
import Derived.Test.YtfncpcmaplhojaaSpoil
import Derived.Test.YtfncpcmaplhojaaSame
import Derived.Deep.DeepAppendRoom
import Derived.Laws.AppendOwnNone
namespace Go.Proofs.Ytfncpcmaplhojaa
open Go.ChangeShapes Go.WideShapes Go.RowKit
set_option linter.unusedVariables false
set_option linter.unusedSimpArgs false
set_option maxRecDepth 100000
set_option maxHeartbeats 4000000

theorem take_set3 (l : List Value) (j : Nat) (a b c : Value) (h : j * 3 + 3 ≤ l.length) :
    (((l.set (j * 3) a).set (j * 3 + 1) b).set (j * 3 + 2) c).take ((j + 1) * 3) = l.take (j * 3) ++ [a, b, c] := by
  apply List.ext_getElem?
  intro i
  rw [List.getElem?_take]
  by_cases h1 : i < j * 3
  · rw [if_pos (by omega), List.getElem?_append_left (by rw [List.length_take]; omega), List.getElem?_take, if_pos h1,
      List.getElem?_set_ne (by omega), List.getElem?_set_ne (by omega), List.getElem?_set_ne (by omega)]
  · have hl : (l.take (j * 3)).length = j * 3 := by rw [List.length_take]; omega
    rw [List.getElem?_append_right (by omega), hl]
    by_cases h2 : i = j * 3
    · subst h2
      rw [if_pos (by omega), List.getElem?_set_ne (by omega), List.getElem?_set_ne (by omega), List.getElem?_set_self (by omega)]
      simp
    · by_cases h3 : i = j * 3 + 1
      · subst h3
        rw [if_pos (by omega), List.getElem?_set_ne (by omega), List.getElem?_set_self (by rw [List.length_set]; omega)]
        simp
      · by_cases h4 : i = j * 3 + 2
        · subst h4
          rw [if_pos (by omega), List.getElem?_set_self (by rw [List.length_set, List.length_set]; omega)]
          simp
        · rw [if_neg (by omega)]
          obtain ⟨m, rfl⟩ : ∃ m, i = j * 3 + 3 + m := ⟨i - (j * 3 + 3), by omega⟩
          rw [show j * 3 + 3 + m - j * 3 = m + 3 by omega]
          rfl
/-- a list with room behind it, in which p stands three times -/
def Room (w : World) (B g n : Nat) (l : List Pt) : Prop := B ≤ g ∧ ∃ cs : Array Value, Blk w g 45 cs ∧ cs.size = (n + 3) * 3 ∧ cs.toList = pc l
theorem room_step (cs : Array Value) (l : List Pt) (j N : Nat) (kd m : Int) (t : ByteArray) (hs : cs.size = N * 3) (hj : j < N) (ht : cs.toList.take (j * 3) = pc l) :
    (((cs.setIfInBounds (j * 3) (.int .i64 kd)).setIfInBounds (j * 3 + 1) (.int .i64 m)).setIfInBounds (j * 3 + 2) (.string t)).toList.take ((j + 1) * 3) = pc (l ++ [(kd, m, t)]) := by
  rw [Array.toList_setIfInBounds, Array.toList_setIfInBounds, Array.toList_setIfInBounds, take_set3 _ _ _ _ _ (by rw [Array.length_toList, hs]; omega), ht, pc_append]
  rfl
theorem room_src {w : World} {B n c : Nat} {ad : Addr} {l : List Pt} (h : RdP w B (some ad) n c l) : ∀ j u, (pc l)[j]? = some u → w.cell? (ad.add j) = some u := by
  intro j u hj
  by_cases h0 : 0 < n
  · obtain ⟨b, o, e, hb, hc⟩ := h.2.1.2.2.2 h0
    obtain rfl := Option.some.inj e
    have := hc j u hj
    by_cases h00 : j = 0
    · subst h00; simpa [Addr.add] using this
    · simpa [Addr.add, h00] using this
  · have : l.length = 0 := by rw [← h.1]; omega
    rw [List.length_eq_zero_iff] at this
    subst this
    simp [pc] at hj
theorem pc_one (l : List Pt) : ∀ u ∈ pc l, u.oneCell' = true := by
  intro u hu
  unfold pc at hu
  obtain ⟨p, _, hp⟩ := List.mem_flatMap.1 hu
  simp only [pcells, List.mem_cons, List.not_mem_nil, or_false] at hp
  rcases hp with rfl | rfl | rfl <;> rfl
/-- append of parts where there is room -/
theorem wpList_app_room {ops : Array Oper} {rest : List Oper} {o : Oper} {a : Act} {Q : Exit → Act → World → Prop} (w : World) (hgd : o.guard = none) (s x : Operand)
    (ho : o.op = .call { callee := .builtin .append, args := #[s, x], argTypes := #[27, 27] })
    (B g N : Nat) (hs : a.eval s = .slice (some ⟨g, 0, none⟩) 0 N) (hown : w.ownsRow B 45 3 (.slice (some ⟨g, 0, none⟩) 0 N) 0 [])
    (A : Option Addr) (n c B' : Nat) (l : List Pt) (hx : a.eval x = .slice A n c) (hr : RdP w B' A n c l) (hA : A = none → c = 0) (hn : n ≤ N)
    (h : ∀ w', w'.ownsRow B 45 3 (.slice (some ⟨g, 0, none⟩) n N) n (pc l) → w.grownBy w' (some g) → wpList Try.prog ops Q rest (a.put o.dst (.slice (some ⟨g, 0, none⟩) n N)) w') :
    wpList Try.prog ops Q (o :: rest) a w := by
  obtain ⟨i0, hi, hz0, hz1, hz2⟩ := info_parts Try.info_part
  cases A with
  | none =>
    obtain rfl := hA rfl
    obtain rfl : n = 0 := by have := hr.2.1.1; omega
    have e : l = [] := by rw [← List.length_eq_zero_iff, ← hr.1]
    subst e
    exact wpList_append_own_none hgd s x 27 ho B 45 i0 3 Try.underlying27 hi _ 0 [] hs hown hx (h w hown ⟨rfl, rfl, rfl, Nat.le_refl _, fun _ _ _ => rfl⟩)
  | some ad =>
    refine wpList_append_own_spare w hgd s x 27 ho B 45 i0 3 Try.underlying27 hi hz1 _ _ _ _ hs hown ad n c (pc l) hx (by rw [pc_len, hr.1]) (room_src hr) (pc_one l) (by omega) ?_
    intro w' h1 h2
    rw [Nat.zero_add, List.nil_append] at h1
    rw [Nat.zero_add]
    exact h w' h1 h2
theorem roomy_any (l : List Pt) (p : Pt) (A : Option Addr) (n c : Nat) (w : World) (h : RdP w w.heap.size A n c l) (hn : n ≤ 4398046511104) (hA : A = none → c = 0) :
    Calls Try.prog 25 #[.slice A n c, pval p] w fun e w' => ∃ g, e = .returned (.slice (some ⟨g, 0, none⟩) n (n + 3)) ∧ Room w' w.heap.size g n (l ++ [p, p, p]) ∧ Below w.heap.size w w' := by
  obtain ⟨kd, m, t⟩ := p
  have H := Lib.hid h
  have hle := h.le
  have HA := Lib.hid hA
  clear h hA
  obtain ⟨i0, hi, hz0, hz1, hz2⟩ := info_parts Try.info_part
  obtain ⟨N, hNn⟩ : ∃ N, n + 3 = N := ⟨_, rfl⟩
  have hN : (n : Int) + 3 = (N : Int) := by omega
  have HN := Lib.hid hN
  have HNn := Lib.hid hNn
  clear hN hNn
  unfold pval
  go_enter Try.func25, Try.ntmps25
  go_wp2_with (first
    | (at_make; refine wpList_make_own _ rfl _ _ 27 rfl w.heap.size 45 i0 _ 3 Try.underlying27 hi hz0 hz1 _ _ _ N rfl rfl HN.out (by rw [hz2]; have := HNn.out; omega) (by simp only [maxLen]; have := HNn.out; omega) (by simp) ?_; intro w2 hown2 hg2; simp only [World.size_alloc] at hown2)
    | (at_builtin; refine wpList_app_room _ rfl (.tmp 10) (.tmp 11) rfl w.heap.size _ N rfl hown2 A n c _ l rfl ((H.out.stepA _).step (below_grown hg2 (Nat.le_refl _) (by simp))) HA.out (by have := HNn.out; omega) ?_; intro w3 hown3 hg3))
  have hx := (((Blk.new w 45 #[.int .i64 kd, .int .i64 m, .string t]).grown hg2 (by simp)).grown hg3 (by simp))
  have hb3 : Below w.heap.size w w3 := ((Below.refl w.heap.size w).alloc (Nat.le_refl _) _).trans ((below_grown hg2 (by simp) (by simp)).trans (below_grown hg3 (by have := hg2.size; simp at this; omega) (by simp)))
  obtain ⟨cs0, hB0, hS0, hT0⟩ : ∃ cs : Array Value, Blk w3 (w.heap.size + 1) 45 cs ∧ cs.size = N * 3 ∧ cs.toList.take (n * 3) = pc l := by
    rcases hown3.2 with ⟨h', _⟩ | ⟨g', cap', cur, h', hb, hg, hnc, hcm, hcs, htake⟩
    · simp at h'
    · simp only [Value.slice.injEq, Option.some.injEq, Addr.mk.injEq, and_true, true_and] at h'
      obtain ⟨rfl, rfl⟩ := h'
      exact ⟨cur, hg, hcs, htake⟩
  have hg1 : w.heap.size ≤ w.heap.size + 1 := by omega
  have hxg : w.heap.size ≠ w.heap.size + 1 := by omega
  clear hown2 hown3 hg2 hg3 w2 hi hz0 hz1 hz2
  obtain ⟨g, hg⟩ : ∃ g, w.heap.size + 1 = g := ⟨_, rfl⟩
  obtain ⟨x, hx0⟩ : ∃ x, w.heap.size = x := ⟨_, rfl⟩
  rw [hg] at hB0 hg1 hxg ⊢
  rw [hx0] at hx hxg hb3 hg1 ⊢
  have HX := Lib.hid hx
  have HB := Lib.hid hB0
  have HS := Lib.hid hS0
  have HT := Lib.hid hT0
  have H3 := Lib.hid hb3
  clear hx hB0 hS0 hT0 hb3 hg
  go_loopw [6, 13] (fun uv iv wr => ∃ (k : Nat) (cs : Array Value), k ≤ 3 ∧ iv = .int .i64 k ∧ Hid (cs.size = N * 3) ∧ Hid (cs.toList.take ((n + k) * 3) = pc (l ++ List.replicate k (kd, m, t))) ∧ Hid (Blk wr g 45 cs) ∧ Hid (Blk wr x 45 #[.int .i64 kd, .int .i64 m, .string t]) ∧ Hid (Below x w wr)) (fun _ iv _ => 3 - (intOf iv).toNat)
  case atStart => exact ⟨0, cs0, by omega, rfl, HS, Lib.hid (by simpa using HT.out), HB, HX, H3⟩
  case round =>
    obtain ⟨k, cs, hk, rfl, hcs, hct, hgb, hxb, hbw⟩ := hrel
    by_cases hlt2 : k < 3
    · have hkc : (k : Int) < 3 := by omega
      have hk0 : (0 : Int) ≤ (k : Int) := by omega
      have hn3 := HNn.out
      obtain ⟨j, hj⟩ : ∃ j, n + k = j := ⟨_, rfl⟩
      have hsz := hcs.out
      have hjN : j < N := by omega
      have a0 := hgb.out.cell (j * 3)
      have a1 := hgb.out.cell (j * 3 + 1)
      have a2 := hgb.out.cell (j * 3 + 2)
      obtain ⟨v0, e0⟩ : ∃ v, cs[j * 3]? = some v := ⟨cs[j * 3]'(by omega), Array.getElem?_eq_getElem (by omega)⟩
      obtain ⟨v1, e1⟩ : ∃ v, cs[j * 3 + 1]? = some v := ⟨cs[j * 3 + 1]'(by omega), Array.getElem?_eq_getElem (by omega)⟩
      obtain ⟨v2, e2⟩ : ∃ v, cs[j * 3 + 2]? = some v := ⟨cs[j * 3 + 2]'(by omega), Array.getElem?_eq_getElem (by omega)⟩
      rw [e0] at a0
      rw [e1] at a1
      rw [e2] at a2
      have f0 := hgb.out.frozen (j * 3)
      have f1 := hgb.out.frozen (j * 3 + 1)
      have f2 := hgb.out.frozen (j * 3 + 2)
      have x0 := hxb.out.cell 0
      have x1 := hxb.out.cell 1
      have x2 := hxb.out.cell 2
      have hxl := hxb.out.lt
      have hgl := hgb.out.lt
      have hw1 : IntKind.i64.wrap ((n : Int) + 3) = (N : Int) := by rw [HN.out]; exact IntWalk.i64_in _ (by omega)
      have hw2 : IntKind.i64.wrap ((n : Int) + (k : Int)) = (j : Int) := by rw [show (n : Int) + (k : Int) = (j : Int) by omega]; exact IntWalk.i64_in _ (by omega)
      have hl1 : (j : Int) < (N : Int) := by omega
      have hl0 : (0 : Int) ≤ (j : Int) := by omega
      have hl2 : (0 : Int) ≤ (N : Int) := by omega
      have Hj := Lib.hid hj
      have hjt : (j : Int).toNat = j := by omega
      have hNt : (N : Int).toNat = N := by omega
      clear e0 e1 e2 hsz hn3 hj
      go_wp2_with fail
      go_region
      go_wp2_with fail
      go_roundw
      case rel =>
        refine ⟨k + 1, ((cs.setIfInBounds (j * 3) (.int .i64 kd)).setIfInBounds (j * 3 + 1) (.int .i64 m)).setIfInBounds (j * 3 + 2) (.string t), by omega, by go_num, Lib.hid (by simpa using hcs.out), ?_, ?_, ?_, ?_⟩
        · have h1 := room_step cs (l ++ List.replicate k (kd, m, t)) j N kd m t hcs.out hjN (by rw [← Hj.out]; exact hct.out)
          rw [← Hj.out] at h1 ⊢
          rw [List.replicate_succ', ← List.append_assoc]
          exact Lib.hid h1
        · exact Lib.hid ((((hgb.out.set_ _ _).set_ _ _).set_ _ _).drew)
        · exact Lib.hid ((((hxb.out.far hxg _).far hxg _).far hxg _).drew)
        · exact Lib.hid ((((hbw.out.setCell (p := ⟨g, j * 3, none⟩) hg1 _).setCell (p := ⟨g, j * 3 + 1, none⟩) hg1 _).setCell (p := ⟨g, j * 3 + 2, none⟩) hg1 _).drew)
      case measure => simp [intOf]; omega
    · obtain rfl : k = 3 := by omega
      go_wp2_with fail
      go_ret
      have hn3 := HNn.out
      have hc3 := hct.out
      rw [hn3] at hc3
      subst hn3
      subst hx0
      refine ⟨g, rfl, ⟨hg1, cs, hgb.out, hcs.out, ?_⟩, hbw.out⟩
      rw [List.take_of_length_le (by rw [Array.length_toList, hcs.out]; omega)] at hc3
      exact hc3
end Go.Proofs.Ytfncpcmaplhojaa
