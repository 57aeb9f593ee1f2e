/- Contract of scrivtop.begun: the program does something. Contract of tier.Cover and of slices.Equal on blocks. Rows of deltas of the call's own. What comes between revisions, in parts; plain lists, no program. The levels of tier.Build as lists (pure). Each block of a level is what comes between its ends (pure). The tiers of a history as lists, and that their joining never fails (pure). -/
import Derived.Test.YtcdielgpmnhmjaaK32
import Derived.Test.YtcdielgpmnhmjaaK10
import Derived.Test.YtcdielgpmnhmjaaK1
import Derived.Test.YtcdielgpmnhmjaaK15
import Derived.Test.YtcdielgpmnhmjaaK20
import Derived.Test.YtcdielgpmnhmjaaK11
namespace Go.Proofs.Ytcdielgpmnhmjaa
open Go.ChangeShapes Go.WideShapes Go.RowKit
set_option linter.unusedVariables false
set_option linter.unusedSimpArgs false
set_option maxRecDepth 100000
set_option maxHeartbeats 4000000

theorem topput_any (s : ByteArray) (hs : s.size ≤ 140737488351232) (w : World) :
    Calls Try.prog 82 #[.string s] w fun e w' => ∃ A, e = .returned (.slice A 1 1) ∧ RdP w' w'.heap.size A 1 1 [(2, 0, s)] ∧ Below w.heap.size w w' := by
  have hr := RdP.built w #[.int .i64 2, .int .i64 0, .string s] [(2, 0, s)] 1 rfl rfl (by decide) (by simpa using hs)
  have Hr := Lib.hid hr
  clear hr
  go_enter Try.func82, Try.ntmps82
  go_wp2_with fail
  go_ret
  exact ⟨_, rfl, by simpa using Hr.out, (Below.refl _ _).alloc (Nat.le_refl _) _⟩
theorem begun_text : txt (addS shN (1, 1, [(2, 0, ⟨#[97]⟩)])).log.text (addS shN (1, 1, [(2, 0, ⟨#[97]⟩)])).log.revs 1 = ⟨#[97]⟩ := by rfl
theorem begun_any (w : World) : Calls Try.prog 39 #[] w fun e w' => e = .returned (.bool true) ∧ Below w.heap.size w w' := by
  obtain ⟨B, hB⟩ : ∃ B, w.heap.size = B := ⟨_, rfl⟩
  have HBw := Lib.hid hB
  clear hB
  go_enter Try.func39, Try.ntmps39
  go_wp2_with fail
  refine (snew_B w).mono ?_
  rintro e w1 ⟨q, rfl, hm, hb1⟩
  rw [HBw.out] at hm hb1
  have hs1 : B ≤ w1.heap.size := by have := hb1.size; have := HBw.out; omega
  have HM := Lib.hid hm
  have HW := Lib.hid hb1
  have HS := Lib.hid hs1
  clear hm hb1 hs1
  go_wp2_with fail
  refine (topput_any ⟨#[97]⟩ (by decide) w1).mono ?_
  rintro e w2 ⟨A, rfl, hr, hb2⟩
  have HW2 := Lib.hid (HW.out.trans (hb2.mono HS.out))
  have HS2 : Hid (B ≤ w2.heap.size) := Lib.hid (Nat.le_trans HS.out hb2.size)
  have hc := sadd_B q shN none B 1 1 1 [(2, 0, ⟨#[97]⟩)] A 1 1 w2 (HM.out.below hb2) HS2.out hr
  rw [show nextE shN.log shN.text.size (1, 1, [(2, 0, ⟨#[97]⟩)]) = 0 from fill_a, if_pos rfl, show shN.log.base + ((shN.log.revs.length + 1 : Nat) : Int) = 1 from rfl] at hc
  rw [show addG shN none (1, 1, [(2, 0, ⟨#[97]⟩)]) = addS shN (1, 1, [(2, 0, ⟨#[97]⟩)]) by rw [addG_none, if_pos fill_a]] at hc
  have Hc := Lib.hid hc
  clear hc hr hb2 HM HW HS
  go_wp2_with fail
  refine Hc.out.mono ?_
  rintro e w3 ⟨rfl, hm, hb3⟩
  have HW3 := Lib.hid (HW2.out.trans hb3)
  have HS3 : Hid (B ≤ w3.heap.size) := Lib.hid (Nat.le_trans HS2.out hb3.size)
  have hc := stext_B q _ none B 1 1 1 w3 hm rfl (by decide)
  rw [begun_text] at hc
  have Hc2 := Lib.hid hc
  clear hc hm hb3 Hc HW2 HS2
  go_wp2_with fail
  refine Hc2.out.mono ?_
  rintro e w4 ⟨rfl, hb4⟩
  have hw := HW3.out.trans (hb4.mono HS3.out)
  clear hb4 Hc2 HW3
  go_wp2_with fail
  go_ret
  exact ⟨rfl, HBw.out ▸ hw⟩
end Go.Proofs.Ytcdielgpmnhmjaa
namespace Go.Proofs.Ytcdielgpmnhmjaa
open Go.ChangeShapes Go.WideShapes Go.RowKit
set_option linter.unusedVariables false
set_option linter.unusedSimpArgs false
set_option maxRecDepth 100000
set_option maxHeartbeats 4000000

def lev (i k : Nat) : Nat → Nat → Nat
  | 0, n => n
  | f + 1, n => if i % 2 ^ (n + 1) = 0 ∧ i + 2 ^ (n + 1) ≤ k then lev i k f (n + 1) else n
def coverL : Nat → Nat → Nat → List (Nat × Nat)
  | 0, _, _ => []
  | f + 1, i, k => if i < k then (lev i k 8 0, i / 2 ^ lev i k 8 0) :: coverL f (i + 2 ^ lev i k 8 0) k else []
def bcells (b : Nat × Nat) : List Value := [.int .i64 b.1, .int .i64 b.2]
def OwnBlocks (w : World) (B : Nat) (v : Value) (l : List (Nat × Nat)) : Prop := w.ownsRow B 150 2 v l.length (l.flatMap bcells)

theorem cover_bad (i k : Int) (w : World) (h : i < 0 ∨ 64 < k ∨ k < i) :
    Calls Try.prog 48 #[.int .i64 i, .int .i64 k] w fun e w' => e = .returned (.tuple #[.slice none 0 0, .int .i64 1]) ∧ w = w' := by
  by_cases h1 : i < 0
  · go_enter Try.func48, Try.ntmps48
    go_wp2_with fail
    go_ret2
    exact ⟨rfl, rfl⟩
  by_cases h2 : 64 < k
  · go_enter Try.func48, Try.ntmps48
    go_wp2_with fail
    go_ret2
    exact ⟨rfl, rfl⟩
  · have h3 : k < i := by omega
    go_enter Try.func48, Try.ntmps48
    go_wp2_with fail
    go_ret2
    exact ⟨rfl, rfl⟩

theorem Try.info_block : (Try.prog.info? 150).map (fun i => (i.zero, i.size, i.bytes)) = some (some (.agg #[.int .i64 0, .int .i64 0]), 2, 16) := by kernel_rfl
theorem wpList_app_block {ops : Array Oper} {rest : List Oper} {o : Oper} {a : Act} {Q : Exit → Act → World → Prop} (w : World) (hgd : o.guard = none) (s x : Operand)
    (ho : o.op = .call { callee := .builtin .append, args := #[s, x], argTypes := #[84, 84] })
    (B : Nat) (v : Value) (l : List (Nat × Nat)) (hs : a.eval s = v) (hown : OwnBlocks w B v l)
    (cs : Array Value) (c : Nat) (hx : a.eval x = .slice (some ⟨w.heap.size, 0, none⟩) 1 c) (b : Nat × Nat) (hb : cs = (bcells b).toArray)
    (hn : l.length ≤ 100000000) (hB : B ≤ w.heap.size)
    (h : ∀ v' w', OwnBlocks w' B v' (l ++ [b]) → Below B w w' → wpList Try.prog ops Q rest (a.put o.dst v') w') :
    wpList Try.prog ops Q (o :: rest) a (w.alloc (.cells cs 150)) := by
  obtain ⟨i0, hi, hz0, hz1, hz2⟩ := info_parts Try.info_block
  subst hb
  refine wpList_app1 w hgd s x 84 ho B 150 i0 _ 2 16 Try.underlying84 hi hz0 hz1 hz2 rfl (by omega) (by omega) v _ _ hs hown _ c hx rfl (by simp [bcells, Value.oneCell']) hn hB ?_
  intro v' w' h1 h2 h3 h4
  exact h v' w' (by simpa [OwnBlocks] using h1) h2
theorem cover_good (i0 k : Nat) (w : World) (h1 : (k : Int) ≤ 64) (h2 : (i0 : Int) ≤ k) :
    Calls Try.prog 48 #[.int .i64 i0, .int .i64 k] w fun e w' => ∃ v, e = .returned (.tuple #[v, .int .i64 0]) ∧ OwnBlocks w' w.heap.size v (coverL 65 i0 k) ∧ Below w.heap.size w w' := by
  have hd3 : decide (k < i0) = false := by simp; omega
  go_enter Try.func48, Try.ntmps48
  go_wp2_with fail
  go_loopw [0, 6, 7] (fun i v n wr => ∃ (j f : Nat) (l : List (Nat × Nat)), i = .int .i64 j ∧ (j : Int) ≤ k ∧ l.length ≤ j ∧ 65 - f ≤ j ∧ OwnBlocks wr w.heap.size v l ∧ Hid (l ++ coverL f j k = coverL 65 i0 k) ∧ Below w.heap.size w wr) (fun i _ _ _ => 64 - (intOf i).toNat)
  case atStart => exact ⟨i0, 65, [], rfl, h2, by simp, by omega, World.ownsRow_nil _ _ _ _, Lib.hid rfl, Below.refl _ _⟩
  case round =>
    obtain ⟨j, f, l, rfl, hj, hll, hf, hown, hl, hb⟩ := hrel
    by_cases hlt : (j : Int) < k
    · obtain ⟨f, rfl⟩ : ∃ f', f = f' + 1 := ⟨f - 1, by omega⟩
      go_wp2_with fail
      obtain ⟨wo, rfl⟩ : ∃ wo : World, wo = wr := ⟨_, rfl⟩
      go_loop [7] (fun n => ∃ m g : Nat, n = .int .i64 m ∧ m + g = 8 ∧ m ≤ 6 ∧ Hid (j + 2 ^ m ≤ k) ∧ Hid (lev j k g m = lev j k 8 0)) (fun n => 8 - (intOf n).toNat)
      case atStart => exact ⟨0, 8, rfl, by omega, by omega, Lib.hid (by omega), Lib.hid rfl⟩
      case round =>
        obtain ⟨m, g, rfl, hmg, hm, hjm, hlev⟩ := hrel
        have hcs : m = 0 ∨ m = 1 ∨ m = 2 ∨ m = 3 ∨ m = 4 ∨ m = 5 ∨ m = 6 := by omega
        have hjm2 := hjm.out
        have Hb := Lib.hid hb
        have Hown := Lib.hid hown
        have hbs := hb.size
        obtain rfl : g = 8 - m := by omega
        clear hjm hb hown hmg
        rcases hcs with rfl | rfl | rfl | rfl | rfl | rfl | rfl
        · have hlv : lev j k 8 0 = lev j k 8 0 := hlev.out
          have hjm2 : j + 1 ≤ k := hjm2
          have hdec : lev j k 8 0 = if j % 2 = 0 ∧ j + 2 ≤ k then lev j k 7 1 else 0 := rfl
          by_cases hmod : (j : Int) % 2 = 0
          · have h1 : ((j : Int) % 2 == 0) = true := by rw [beq_iff_eq]; exact hmod
            by_cases h2 : (j : Int) + 2 ≤ k
            · have hlev' : Hid (lev j k 7 1 = lev j k 8 0) := by
                rw [← hlv, hdec, if_pos (by omega)]; exact Lib.hid rfl
              clear hdec hmod hlv hlev
              go_wp2_with fail
              go_round
              case rel => exact ⟨1, 7, rfl, by omega, by omega, Lib.hid (by omega), hlev'⟩
              case measure => simp [intOf]
            · have hL : Hid (lev j k 8 0 = 0) := by
                rw [← hlv, hdec, if_neg (by omega)]; exact Lib.hid rfl
              have hl' : Hid ((l ++ [(0, j / 1)]) ++ coverL f (j + 1) k = coverL 65 i0 k) := by
                rw [← hl.out]
                conv => rhs; rw [coverL, if_pos (by omega), hL.out]
                exact Lib.hid (by simp)
              have hjm3 : (j : Int) + 1 ≤ k := by omega
              clear hdec hmod hL hl hlev hlv
              go_wp2_with fail
              refine wp_loop_rounds 1 ?_
              rw [rounds_succ]
              go_wp2_with (first | (at_builtin; refine wpList_app_block _ rfl (.tmp 45) (.tmp 51) rfl w.heap.size _ l rfl Hown.out _ 1 rfl (0, j / 1) (by simp [bcells]) (by omega) hbs ?_; intro v1 w1 hown1 hb1))
              go_roundw
              case rel => exact ⟨j + 1, f, l ++ [(0, j / 1)], by go_num, by omega, by simp; omega, by omega, hown1, hl', Hb.out.trans hb1⟩
              case measure => simp [intOf]; omega
          · have h1 : ((j : Int) % 2 == 0) = false := by rw [beq_eq_false_iff_ne]; exact hmod
            have hL : Hid (lev j k 8 0 = 0) := by
              rw [← hlv, hdec, if_neg (by omega)]; exact Lib.hid rfl
            have hl' : Hid ((l ++ [(0, j / 1)]) ++ coverL f (j + 1) k = coverL 65 i0 k) := by
              rw [← hl.out]
              conv => rhs; rw [coverL, if_pos (by omega), hL.out]
              exact Lib.hid (by simp)
            have hjm3 : (j : Int) + 1 ≤ k := by omega
            clear hdec hmod hL hl hlev hlv
            go_wp2_with fail
            refine wp_loop_rounds 1 ?_
            rw [rounds_succ]
            go_wp2_with (first | (at_builtin; refine wpList_app_block _ rfl (.tmp 45) (.tmp 51) rfl w.heap.size _ l rfl Hown.out _ 1 rfl (0, j / 1) (by simp [bcells]) (by omega) hbs ?_; intro v1 w1 hown1 hb1))
            go_roundw
            case rel => exact ⟨j + 1, f, l ++ [(0, j / 1)], by go_num, by omega, by simp; omega, by omega, hown1, hl', Hb.out.trans hb1⟩
            case measure => simp [intOf]; omega
        · have hlv : lev j k 7 1 = lev j k 8 0 := hlev.out
          have hjm2 : j + 2 ≤ k := hjm2
          have hdec : lev j k 7 1 = if j % 4 = 0 ∧ j + 4 ≤ k then lev j k 6 2 else 1 := rfl
          by_cases hmod : (j : Int) % 4 = 0
          · have h1 : ((j : Int) % 4 == 0) = true := by rw [beq_iff_eq]; exact hmod
            by_cases h2 : (j : Int) + 4 ≤ k
            · have hlev' : Hid (lev j k 6 2 = lev j k 8 0) := by
                rw [← hlv, hdec, if_pos (by omega)]; exact Lib.hid rfl
              clear hdec hmod hlv hlev
              go_wp2_with fail
              go_round
              case rel => exact ⟨2, 6, rfl, by omega, by omega, Lib.hid (by omega), hlev'⟩
              case measure => simp [intOf]
            · have hL : Hid (lev j k 8 0 = 1) := by
                rw [← hlv, hdec, if_neg (by omega)]; exact Lib.hid rfl
              have hl' : Hid ((l ++ [(1, j / 2)]) ++ coverL f (j + 2) k = coverL 65 i0 k) := by
                rw [← hl.out]
                conv => rhs; rw [coverL, if_pos (by omega), hL.out]
                exact Lib.hid (by simp)
              have hjm3 : (j : Int) + 2 ≤ k := by omega
              clear hdec hmod hL hl hlev hlv
              go_wp2_with fail
              refine wp_loop_rounds 1 ?_
              rw [rounds_succ]
              go_wp2_with (first | (at_builtin; refine wpList_app_block _ rfl (.tmp 45) (.tmp 51) rfl w.heap.size _ l rfl Hown.out _ 1 rfl (1, j / 2) (by simp [bcells]) (by omega) hbs ?_; intro v1 w1 hown1 hb1))
              go_roundw
              case rel => exact ⟨j + 2, f, l ++ [(1, j / 2)], by go_num, by omega, by simp; omega, by omega, hown1, hl', Hb.out.trans hb1⟩
              case measure => simp [intOf]; omega
          · have h1 : ((j : Int) % 4 == 0) = false := by rw [beq_eq_false_iff_ne]; exact hmod
            have hL : Hid (lev j k 8 0 = 1) := by
              rw [← hlv, hdec, if_neg (by omega)]; exact Lib.hid rfl
            have hl' : Hid ((l ++ [(1, j / 2)]) ++ coverL f (j + 2) k = coverL 65 i0 k) := by
              rw [← hl.out]
              conv => rhs; rw [coverL, if_pos (by omega), hL.out]
              exact Lib.hid (by simp)
            have hjm3 : (j : Int) + 2 ≤ k := by omega
            clear hdec hmod hL hl hlev hlv
            go_wp2_with fail
            refine wp_loop_rounds 1 ?_
            rw [rounds_succ]
            go_wp2_with (first | (at_builtin; refine wpList_app_block _ rfl (.tmp 45) (.tmp 51) rfl w.heap.size _ l rfl Hown.out _ 1 rfl (1, j / 2) (by simp [bcells]) (by omega) hbs ?_; intro v1 w1 hown1 hb1))
            go_roundw
            case rel => exact ⟨j + 2, f, l ++ [(1, j / 2)], by go_num, by omega, by simp; omega, by omega, hown1, hl', Hb.out.trans hb1⟩
            case measure => simp [intOf]; omega
        · have hlv : lev j k 6 2 = lev j k 8 0 := hlev.out
          have hjm2 : j + 4 ≤ k := hjm2
          have hdec : lev j k 6 2 = if j % 8 = 0 ∧ j + 8 ≤ k then lev j k 5 3 else 2 := rfl
          by_cases hmod : (j : Int) % 8 = 0
          · have h1 : ((j : Int) % 8 == 0) = true := by rw [beq_iff_eq]; exact hmod
            by_cases h2 : (j : Int) + 8 ≤ k
            · have hlev' : Hid (lev j k 5 3 = lev j k 8 0) := by
                rw [← hlv, hdec, if_pos (by omega)]; exact Lib.hid rfl
              clear hdec hmod hlv hlev
              go_wp2_with fail
              go_round
              case rel => exact ⟨3, 5, rfl, by omega, by omega, Lib.hid (by omega), hlev'⟩
              case measure => simp [intOf]
            · have hL : Hid (lev j k 8 0 = 2) := by
                rw [← hlv, hdec, if_neg (by omega)]; exact Lib.hid rfl
              have hl' : Hid ((l ++ [(2, j / 4)]) ++ coverL f (j + 4) k = coverL 65 i0 k) := by
                rw [← hl.out]
                conv => rhs; rw [coverL, if_pos (by omega), hL.out]
                exact Lib.hid (by simp)
              have hjm3 : (j : Int) + 4 ≤ k := by omega
              clear hdec hmod hL hl hlev hlv
              go_wp2_with fail
              refine wp_loop_rounds 1 ?_
              rw [rounds_succ]
              go_wp2_with (first | (at_builtin; refine wpList_app_block _ rfl (.tmp 45) (.tmp 51) rfl w.heap.size _ l rfl Hown.out _ 1 rfl (2, j / 4) (by simp [bcells]) (by omega) hbs ?_; intro v1 w1 hown1 hb1))
              go_roundw
              case rel => exact ⟨j + 4, f, l ++ [(2, j / 4)], by go_num, by omega, by simp; omega, by omega, hown1, hl', Hb.out.trans hb1⟩
              case measure => simp [intOf]; omega
          · have h1 : ((j : Int) % 8 == 0) = false := by rw [beq_eq_false_iff_ne]; exact hmod
            have hL : Hid (lev j k 8 0 = 2) := by
              rw [← hlv, hdec, if_neg (by omega)]; exact Lib.hid rfl
            have hl' : Hid ((l ++ [(2, j / 4)]) ++ coverL f (j + 4) k = coverL 65 i0 k) := by
              rw [← hl.out]
              conv => rhs; rw [coverL, if_pos (by omega), hL.out]
              exact Lib.hid (by simp)
            have hjm3 : (j : Int) + 4 ≤ k := by omega
            clear hdec hmod hL hl hlev hlv
            go_wp2_with fail
            refine wp_loop_rounds 1 ?_
            rw [rounds_succ]
            go_wp2_with (first | (at_builtin; refine wpList_app_block _ rfl (.tmp 45) (.tmp 51) rfl w.heap.size _ l rfl Hown.out _ 1 rfl (2, j / 4) (by simp [bcells]) (by omega) hbs ?_; intro v1 w1 hown1 hb1))
            go_roundw
            case rel => exact ⟨j + 4, f, l ++ [(2, j / 4)], by go_num, by omega, by simp; omega, by omega, hown1, hl', Hb.out.trans hb1⟩
            case measure => simp [intOf]; omega
        · have hlv : lev j k 5 3 = lev j k 8 0 := hlev.out
          have hjm2 : j + 8 ≤ k := hjm2
          have hdec : lev j k 5 3 = if j % 16 = 0 ∧ j + 16 ≤ k then lev j k 4 4 else 3 := rfl
          by_cases hmod : (j : Int) % 16 = 0
          · have h1 : ((j : Int) % 16 == 0) = true := by rw [beq_iff_eq]; exact hmod
            by_cases h2 : (j : Int) + 16 ≤ k
            · have hlev' : Hid (lev j k 4 4 = lev j k 8 0) := by
                rw [← hlv, hdec, if_pos (by omega)]; exact Lib.hid rfl
              clear hdec hmod hlv hlev
              go_wp2_with fail
              go_round
              case rel => exact ⟨4, 4, rfl, by omega, by omega, Lib.hid (by omega), hlev'⟩
              case measure => simp [intOf]
            · have hL : Hid (lev j k 8 0 = 3) := by
                rw [← hlv, hdec, if_neg (by omega)]; exact Lib.hid rfl
              have hl' : Hid ((l ++ [(3, j / 8)]) ++ coverL f (j + 8) k = coverL 65 i0 k) := by
                rw [← hl.out]
                conv => rhs; rw [coverL, if_pos (by omega), hL.out]
                exact Lib.hid (by simp)
              have hjm3 : (j : Int) + 8 ≤ k := by omega
              clear hdec hmod hL hl hlev hlv
              go_wp2_with fail
              refine wp_loop_rounds 1 ?_
              rw [rounds_succ]
              go_wp2_with (first | (at_builtin; refine wpList_app_block _ rfl (.tmp 45) (.tmp 51) rfl w.heap.size _ l rfl Hown.out _ 1 rfl (3, j / 8) (by simp [bcells]) (by omega) hbs ?_; intro v1 w1 hown1 hb1))
              go_roundw
              case rel => exact ⟨j + 8, f, l ++ [(3, j / 8)], by go_num, by omega, by simp; omega, by omega, hown1, hl', Hb.out.trans hb1⟩
              case measure => simp [intOf]; omega
          · have h1 : ((j : Int) % 16 == 0) = false := by rw [beq_eq_false_iff_ne]; exact hmod
            have hL : Hid (lev j k 8 0 = 3) := by
              rw [← hlv, hdec, if_neg (by omega)]; exact Lib.hid rfl
            have hl' : Hid ((l ++ [(3, j / 8)]) ++ coverL f (j + 8) k = coverL 65 i0 k) := by
              rw [← hl.out]
              conv => rhs; rw [coverL, if_pos (by omega), hL.out]
              exact Lib.hid (by simp)
            have hjm3 : (j : Int) + 8 ≤ k := by omega
            clear hdec hmod hL hl hlev hlv
            go_wp2_with fail
            refine wp_loop_rounds 1 ?_
            rw [rounds_succ]
            go_wp2_with (first | (at_builtin; refine wpList_app_block _ rfl (.tmp 45) (.tmp 51) rfl w.heap.size _ l rfl Hown.out _ 1 rfl (3, j / 8) (by simp [bcells]) (by omega) hbs ?_; intro v1 w1 hown1 hb1))
            go_roundw
            case rel => exact ⟨j + 8, f, l ++ [(3, j / 8)], by go_num, by omega, by simp; omega, by omega, hown1, hl', Hb.out.trans hb1⟩
            case measure => simp [intOf]; omega
        · have hlv : lev j k 4 4 = lev j k 8 0 := hlev.out
          have hjm2 : j + 16 ≤ k := hjm2
          have hdec : lev j k 4 4 = if j % 32 = 0 ∧ j + 32 ≤ k then lev j k 3 5 else 4 := rfl
          by_cases hmod : (j : Int) % 32 = 0
          · have h1 : ((j : Int) % 32 == 0) = true := by rw [beq_iff_eq]; exact hmod
            by_cases h2 : (j : Int) + 32 ≤ k
            · have hlev' : Hid (lev j k 3 5 = lev j k 8 0) := by
                rw [← hlv, hdec, if_pos (by omega)]; exact Lib.hid rfl
              clear hdec hmod hlv hlev
              go_wp2_with fail
              go_round
              case rel => exact ⟨5, 3, rfl, by omega, by omega, Lib.hid (by omega), hlev'⟩
              case measure => simp [intOf]
            · have hL : Hid (lev j k 8 0 = 4) := by
                rw [← hlv, hdec, if_neg (by omega)]; exact Lib.hid rfl
              have hl' : Hid ((l ++ [(4, j / 16)]) ++ coverL f (j + 16) k = coverL 65 i0 k) := by
                rw [← hl.out]
                conv => rhs; rw [coverL, if_pos (by omega), hL.out]
                exact Lib.hid (by simp)
              have hjm3 : (j : Int) + 16 ≤ k := by omega
              clear hdec hmod hL hl hlev hlv
              go_wp2_with fail
              refine wp_loop_rounds 1 ?_
              rw [rounds_succ]
              go_wp2_with (first | (at_builtin; refine wpList_app_block _ rfl (.tmp 45) (.tmp 51) rfl w.heap.size _ l rfl Hown.out _ 1 rfl (4, j / 16) (by simp [bcells]) (by omega) hbs ?_; intro v1 w1 hown1 hb1))
              go_roundw
              case rel => exact ⟨j + 16, f, l ++ [(4, j / 16)], by go_num, by omega, by simp; omega, by omega, hown1, hl', Hb.out.trans hb1⟩
              case measure => simp [intOf]; omega
          · have h1 : ((j : Int) % 32 == 0) = false := by rw [beq_eq_false_iff_ne]; exact hmod
            have hL : Hid (lev j k 8 0 = 4) := by
              rw [← hlv, hdec, if_neg (by omega)]; exact Lib.hid rfl
            have hl' : Hid ((l ++ [(4, j / 16)]) ++ coverL f (j + 16) k = coverL 65 i0 k) := by
              rw [← hl.out]
              conv => rhs; rw [coverL, if_pos (by omega), hL.out]
              exact Lib.hid (by simp)
            have hjm3 : (j : Int) + 16 ≤ k := by omega
            clear hdec hmod hL hl hlev hlv
            go_wp2_with fail
            refine wp_loop_rounds 1 ?_
            rw [rounds_succ]
            go_wp2_with (first | (at_builtin; refine wpList_app_block _ rfl (.tmp 45) (.tmp 51) rfl w.heap.size _ l rfl Hown.out _ 1 rfl (4, j / 16) (by simp [bcells]) (by omega) hbs ?_; intro v1 w1 hown1 hb1))
            go_roundw
            case rel => exact ⟨j + 16, f, l ++ [(4, j / 16)], by go_num, by omega, by simp; omega, by omega, hown1, hl', Hb.out.trans hb1⟩
            case measure => simp [intOf]; omega
        · have hlv : lev j k 3 5 = lev j k 8 0 := hlev.out
          have hjm2 : j + 32 ≤ k := hjm2
          have hdec : lev j k 3 5 = if j % 64 = 0 ∧ j + 64 ≤ k then lev j k 2 6 else 5 := rfl
          by_cases hmod : (j : Int) % 64 = 0
          · have h1 : ((j : Int) % 64 == 0) = true := by rw [beq_iff_eq]; exact hmod
            by_cases h2 : (j : Int) + 64 ≤ k
            · have hlev' : Hid (lev j k 2 6 = lev j k 8 0) := by
                rw [← hlv, hdec, if_pos (by omega)]; exact Lib.hid rfl
              clear hdec hmod hlv hlev
              go_wp2_with fail
              go_round
              case rel => exact ⟨6, 2, rfl, by omega, by omega, Lib.hid (by omega), hlev'⟩
              case measure => simp [intOf]
            · have hL : Hid (lev j k 8 0 = 5) := by
                rw [← hlv, hdec, if_neg (by omega)]; exact Lib.hid rfl
              have hl' : Hid ((l ++ [(5, j / 32)]) ++ coverL f (j + 32) k = coverL 65 i0 k) := by
                rw [← hl.out]
                conv => rhs; rw [coverL, if_pos (by omega), hL.out]
                exact Lib.hid (by simp)
              have hjm3 : (j : Int) + 32 ≤ k := by omega
              clear hdec hmod hL hl hlev hlv
              go_wp2_with fail
              refine wp_loop_rounds 1 ?_
              rw [rounds_succ]
              go_wp2_with (first | (at_builtin; refine wpList_app_block _ rfl (.tmp 45) (.tmp 51) rfl w.heap.size _ l rfl Hown.out _ 1 rfl (5, j / 32) (by simp [bcells]) (by omega) hbs ?_; intro v1 w1 hown1 hb1))
              go_roundw
              case rel => exact ⟨j + 32, f, l ++ [(5, j / 32)], by go_num, by omega, by simp; omega, by omega, hown1, hl', Hb.out.trans hb1⟩
              case measure => simp [intOf]; omega
          · have h1 : ((j : Int) % 64 == 0) = false := by rw [beq_eq_false_iff_ne]; exact hmod
            have hL : Hid (lev j k 8 0 = 5) := by
              rw [← hlv, hdec, if_neg (by omega)]; exact Lib.hid rfl
            have hl' : Hid ((l ++ [(5, j / 32)]) ++ coverL f (j + 32) k = coverL 65 i0 k) := by
              rw [← hl.out]
              conv => rhs; rw [coverL, if_pos (by omega), hL.out]
              exact Lib.hid (by simp)
            have hjm3 : (j : Int) + 32 ≤ k := by omega
            clear hdec hmod hL hl hlev hlv
            go_wp2_with fail
            refine wp_loop_rounds 1 ?_
            rw [rounds_succ]
            go_wp2_with (first | (at_builtin; refine wpList_app_block _ rfl (.tmp 45) (.tmp 51) rfl w.heap.size _ l rfl Hown.out _ 1 rfl (5, j / 32) (by simp [bcells]) (by omega) hbs ?_; intro v1 w1 hown1 hb1))
            go_roundw
            case rel => exact ⟨j + 32, f, l ++ [(5, j / 32)], by go_num, by omega, by simp; omega, by omega, hown1, hl', Hb.out.trans hb1⟩
            case measure => simp [intOf]; omega
        · have hlv : lev j k 2 6 = lev j k 8 0 := hlev.out
          have hjm2 : j + 64 ≤ k := hjm2
          have hdec : lev j k 2 6 = if j % 128 = 0 ∧ j + 128 ≤ k then lev j k 1 7 else 6 := rfl
          by_cases hmod : (j : Int) % 128 = 0
          · have h1 : ((j : Int) % 128 == 0) = true := by rw [beq_iff_eq]; exact hmod
            by_cases h2 : (j : Int) + 128 ≤ k
            · omega
            · have hL : Hid (lev j k 8 0 = 6) := by
                rw [← hlv, hdec, if_neg (by omega)]; exact Lib.hid rfl
              have hl' : Hid ((l ++ [(6, j / 64)]) ++ coverL f (j + 64) k = coverL 65 i0 k) := by
                rw [← hl.out]
                conv => rhs; rw [coverL, if_pos (by omega), hL.out]
                exact Lib.hid (by simp)
              have hjm3 : (j : Int) + 64 ≤ k := by omega
              clear hdec hmod hL hl hlev hlv
              go_wp2_with fail
              refine wp_loop_rounds 1 ?_
              rw [rounds_succ]
              go_wp2_with (first | (at_builtin; refine wpList_app_block _ rfl (.tmp 45) (.tmp 51) rfl w.heap.size _ l rfl Hown.out _ 1 rfl (6, j / 64) (by simp [bcells]) (by omega) hbs ?_; intro v1 w1 hown1 hb1))
              go_roundw
              case rel => exact ⟨j + 64, f, l ++ [(6, j / 64)], by go_num, by omega, by simp; omega, by omega, hown1, hl', Hb.out.trans hb1⟩
              case measure => simp [intOf]; omega
          · have h1 : ((j : Int) % 128 == 0) = false := by rw [beq_eq_false_iff_ne]; exact hmod
            have hL : Hid (lev j k 8 0 = 6) := by
              rw [← hlv, hdec, if_neg (by omega)]; exact Lib.hid rfl
            have hl' : Hid ((l ++ [(6, j / 64)]) ++ coverL f (j + 64) k = coverL 65 i0 k) := by
              rw [← hl.out]
              conv => rhs; rw [coverL, if_pos (by omega), hL.out]
              exact Lib.hid (by simp)
            have hjm3 : (j : Int) + 64 ≤ k := by omega
            clear hdec hmod hL hl hlev hlv
            go_wp2_with fail
            refine wp_loop_rounds 1 ?_
            rw [rounds_succ]
            go_wp2_with (first | (at_builtin; refine wpList_app_block _ rfl (.tmp 45) (.tmp 51) rfl w.heap.size _ l rfl Hown.out _ 1 rfl (6, j / 64) (by simp [bcells]) (by omega) hbs ?_; intro v1 w1 hown1 hb1))
            go_roundw
            case rel => exact ⟨j + 64, f, l ++ [(6, j / 64)], by go_num, by omega, by simp; omega, by omega, hown1, hl', Hb.out.trans hb1⟩
            case measure => simp [intOf]; omega
    · have hl' : l = coverL 65 i0 k := by
        rw [← hl.out]
        rcases f with _ | f
        · simp [coverL]
        · rw [coverL, if_neg (by omega)]; simp
      have Hl := Lib.hid hl'
      clear hl' hl
      go_wp2_with fail
      go_ret2
      exact ⟨u6, rfl, by rw [← Hl.out]; exact hown, hb⟩
end Go.Proofs.Ytcdielgpmnhmjaa
namespace Go.Proofs.Ytcdielgpmnhmjaa
open Go.ChangeShapes Go.WideShapes Go.RowKit
set_option linter.unusedVariables false
set_option linter.unusedSimpArgs false
set_option maxRecDepth 100000
set_option maxHeartbeats 4000000

/-- deltas of the call's own -/
structure Deltas (w : World) (B : Nat) (us : List Value) (ls : List (List Pt)) : Prop where
  len : us.length = ls.length
  at_ : ∀ (j : Nat) (u : Value) (l : List Pt), us[j]? = some u → ls[j]? = some l → Mine w B u l
/-- their blocks lie one behind the other -/
def Inc (us : List Value) : Prop := us.Pairwise fun u v => ∀ p q, u.ownBlock = some p → v.ownBlock = some q → p < q
theorem Deltas.nil (w : World) (B : Nat) : Deltas w B [] [] := ⟨rfl, fun j u l h => by simp at h⟩
theorem Deltas.step {w w' : World} {B : Nat} {us : List Value} {ls : List (List Pt)} (h : Deltas w B us ls) (hb : Below w.heap.size w w') : Deltas w' B us ls :=
  ⟨h.len, fun j u l h1 h2 => (h.at_ j u l h1 h2).step hb⟩
theorem Deltas.base {w : World} {B B' : Nat} {us : List Value} {ls : List (List Pt)} (h : Deltas w B us ls) (hB : B' ≤ B) : Deltas w B' us ls :=
  ⟨h.len, fun j u l h1 h2 => ⟨own_base (h.at_ j u l h1 h2).own hB, (h.at_ j u l h1 h2).len, (h.at_ j u l h1 h2).txt⟩⟩
theorem Deltas.grown {w w' : World} {B B' : Nat} {v' : Value} {us : List Value} {ls : List (List Pt)} {n' size' : Nat} {xs' : List Value} {t : TypeId} (h : Deltas w B us ls) (hr : w.ownsRow B' t size' v' n' xs')
    (hg : w.grownBy w' v'.ownBlock) (ht : 100 ≠ t) : Deltas w' B us ls :=
  ⟨h.len, fun j u l h1 h2 => ⟨own_kept (h.at_ j u l h1 h2).own hg (own_ne_ (h.at_ j u l h1 h2).own hr ht), (h.at_ j u l h1 h2).len, (h.at_ j u l h1 h2).txt⟩⟩
theorem Deltas.snoc {w : World} {B : Nat} {us : List Value} {ls : List (List Pt)} {u : Value} {l : List Pt} (h : Deltas w B us ls) (hm : Mine w B u l) : Deltas w B (us ++ [u]) (ls ++ [l]) := by
  refine ⟨by simp [h.len], fun j v m h1 h2 => ?_⟩
  rcases Nat.lt_or_ge j us.length with hj | hj
  · rw [List.getElem?_append_left hj] at h1
    rw [List.getElem?_append_left (by rw [← h.len]; exact hj)] at h2
    exact h.at_ j v m h1 h2
  · rw [List.getElem?_append_right hj] at h1
    rw [List.getElem?_append_right (by rw [← h.len]; exact hj)] at h2
    rw [h.len] at h1
    cases hd : j - ls.length with
    | zero =>
      rw [hd] at h1 h2
      simp only [List.getElem?_cons_zero, Option.some.injEq] at h1 h2
      subst h1; subst h2
      exact hm
    | succ d =>
      rw [hd] at h1
      simp at h1
theorem Deltas.lt {w : World} {B : Nat} {us : List Value} {ls : List (List Pt)} (h : Deltas w B us ls) : ∀ u ∈ us, ∀ k, u.ownBlock = some k → B ≤ k ∧ k < w.heap.size := by
  intro u hu k hk
  obtain ⟨j, hj, rfl⟩ := List.getElem_of_mem hu
  have h1 : us[j]? = some us[j] := List.getElem?_eq_getElem hj
  have h2 : ls[j]? = some (ls[j]'(by rw [← h.len]; exact hj)) := List.getElem?_eq_getElem (by rw [← h.len]; exact hj)
  exact (h.at_ j _ _ h1 h2).lt k hk
theorem Inc.snoc {us : List Value} {u : Value} {N : Nat} (h : Inc us) (h1 : ∀ v ∈ us, ∀ k, v.ownBlock = some k → k < N) (h2 : ∀ k, u.ownBlock = some k → N ≤ k) : Inc (us ++ [u]) := by
  unfold Inc
  rw [List.pairwise_append]
  refine ⟨h, List.pairwise_singleton _ _, fun a ha b hb p q hp hq => ?_⟩
  rw [List.mem_singleton] at hb
  subst hb
  have := h1 a ha p hp
  have := h2 q hq
  omega
/-- a row of deltas -/
def OwnRow (w : World) (B : Nat) (v : Value) (us : List Value) (ls : List (List Pt)) : Prop := w.ownsRow B 25 1 v us.length us ∧ Deltas w B us ls
theorem OwnRow.step {w w' : World} {B : Nat} {v : Value} {us : List Value} {ls : List (List Pt)} (h : OwnRow w B v us ls) (hb : Below w.heap.size w w') : OwnRow w' B v us ls := ⟨own_below h.1 hb, h.2.step hb⟩
theorem OwnRow.base {w : World} {B B' : Nat} {v : Value} {us : List Value} {ls : List (List Pt)} (h : OwnRow w B v us ls) (hB : B' ≤ B) : OwnRow w B' v us ls := ⟨own_base h.1 hB, h.2.base hB⟩
theorem OwnRow.grown {w w' : World} {B B' : Nat} {v v' : Value} {us : List Value} {ls : List (List Pt)} {n' size' : Nat} {xs' : List Value} {t : TypeId} (h : OwnRow w B v us ls) (hr : w.ownsRow B' t size' v' n' xs')
    (hg : w.grownBy w' v'.ownBlock) (ht : 100 ≠ t) (ht2 : 25 ≠ t) : OwnRow w' B v us ls := ⟨own_kept h.1 hg (own_ne_ h.1 hr ht2), h.2.grown hr hg ht⟩
/-- rows of deltas in a row -/
structure OwnTier (w : World) (B : Nat) (v : Value) (rs : List Value) (uss : List (List Value)) (lss : List (List (List Pt))) : Prop where
  own : w.ownsRow B 90 1 v rs.length rs
  len1 : rs.length = lss.length
  len2 : uss.length = lss.length
  at_ : ∀ (j : Nat) (r : Value) (us : List Value) (ls : List (List Pt)), rs[j]? = some r → uss[j]? = some us → lss[j]? = some ls → OwnRow w B r us ls
theorem OwnTier.step {w w' : World} {B : Nat} {v : Value} {rs : List Value} {uss : List (List Value)} {lss : List (List (List Pt))} (h : OwnTier w B v rs uss lss) (hb : Below w.heap.size w w') : OwnTier w' B v rs uss lss :=
  ⟨own_below h.own hb, h.len1, h.len2, fun j r us ls h1 h2 h3 => (h.at_ j r us ls h1 h2 h3).step hb⟩
theorem OwnTier.nil (w : World) (B : Nat) : OwnTier w B (.slice none 0 0) [] [] [] := ⟨World.ownsRow_nil _ _ _ _, rfl, rfl, fun j r us ls h => by simp at h⟩
theorem OwnTier.snoc {w w' : World} {B : Nat} {v v' r : Value} {rs us : List Value} {uss : List (List Value)} {lss : List (List (List Pt))} {ls : List (List Pt)} (h : OwnTier w B v rs uss lss) (hr : OwnRow w B r us ls)
    (ho : w'.ownsRow B 90 1 v' (rs.length + 1) (rs ++ [r])) (hg : w.grownBy w' v.ownBlock) : OwnTier w' B v' (rs ++ [r]) (uss ++ [us]) (lss ++ [ls]) := by
  refine ⟨by simpa using ho, by simp [h.len1], by simp [h.len2], fun j r2 us2 ls2 h1 h2 h3 => ?_⟩
  rcases Nat.lt_or_ge j lss.length with hj | hj
  · rw [List.getElem?_append_left (by rw [h.len1]; exact hj)] at h1
    rw [List.getElem?_append_left (by rw [h.len2]; exact hj)] at h2
    rw [List.getElem?_append_left hj] at h3
    exact (h.at_ j r2 us2 ls2 h1 h2 h3).grown h.own hg (by decide) (by decide)
  · rw [List.getElem?_append_right (by rw [h.len1]; exact hj), h.len1] at h1
    rw [List.getElem?_append_right (by rw [h.len2]; exact hj), h.len2] at h2
    rw [List.getElem?_append_right hj] at h3
    cases hd : j - lss.length with
    | zero =>
      rw [hd] at h1 h2 h3
      simp only [List.getElem?_cons_zero, Option.some.injEq] at h1 h2 h3
      subst h1; subst h2; subst h3
      exact hr.grown h.own hg (by decide) (by decide)
    | succ d =>
      rw [hd] at h1
      simp at h1
end Go.Proofs.Ytcdielgpmnhmjaa
namespace Go.Proofs.Ytcdielgpmnhmjaa
set_option linter.unusedVariables false
set_option linter.unusedSimpArgs false

theorem btw_app : ∀ (l l' : List Rv) (o : List Pt), btw o (l ++ l') = btw (btw o l) l'
  | [], l', o => rfl
  | r :: l, l', o => by simp only [List.cons_append, btw]; exact btw_app l l' _
theorem btw_comp : ∀ (l : List Rv) (o : List Pt) (s : ByteArray), doE o s = 0 → txr (doS o s) l = 0 → btw o l = compL o (btw (allL (doS o s).size) l) ∧ compE o (btw (allL (doS o s).size) l) = 0
  | [], o, s, h, _ => by
    have hk := do_chk h
    have := all_right hk.1
    simp only [btw]
    rw [do_size h]
    exact ⟨this.2.symm, this.1⟩
  | r :: l, o, s, h, h2 => by
    obtain ⟨c1, c2, c3⟩ := btw_step h h2
    have hle := do_le h
    have hda := do_all hle
    obtain ⟨d1, d2, d3⟩ := btw_step hda.1 (show txr (doS (allL (doS o s).size) (doS o s)) (r :: l) = 0 by rw [hda.2]; exact h2)
    have kc := comp_chk c1
    have hr : compL (allL (doS o s).size) r.2.2 = r.2.2 := by
      have := (all_left kc.2.1).2
      have hn : nI (units r.2.2) = (doS o s).size := by rw [← kc.2.2.1, ← do_size h]
      rw [hn] at this
      exact this
    rw [hr] at d2 d3
    have ih1 := btw_comp l (compL o r.2.2) s c2 c3
    have ih2 := btw_comp l r.2.2 (doS o s) d2 d3
    have e := (comp_do h d2).2.2
    rw [e] at ih1
    have hj := joins_left c1 ih2.2
    simp only [btw]
    rw [hr, ih1.1, ih2.1]
    exact ⟨hj.2.2, hj.2.1⟩
theorem parts_law {base : ByteArray} {l : List Rv} (h : txE base l = 0) (p q r : Nat) (hpq : p ≤ q) (hqr : q ≤ r) (hr : r ≤ l.length) :
    compE (btw (allL (txt base l p).size) ((l.drop p).take (q - p))) (btw (allL (txt base l q).size) ((l.drop q).take (r - q))) = 0 ∧
    compL (btw (allL (txt base l p).size) ((l.drop p).take (q - p))) (btw (allL (txt base l q).size) ((l.drop q).take (r - q))) = btw (allL (txt base l p).size) ((l.drop p).take (r - p)) := by
  have hp := txE_parts h
  have h1 := btw_of h p q hpq (by omega)
  have ht := txr_take (l.drop q) (txt base l q) (r - q) (txr_drop l base q hp.2.2)
  have hc := btw_comp ((l.drop q).take (r - q)) _ (txt base l p) h1.1 (by rw [h1.2]; exact ht)
  rw [h1.2] at hc
  refine ⟨hc.2, ?_⟩
  rw [← hc.1, ← btw_app]
  congr 1
  have e : l.drop q = (l.drop p).drop (q - p) := by rw [List.drop_drop, show p + (q - p) = q by omega]
  rw [e, ← List.take_add, show q - p + (r - q) = r - p by omega]
end Go.Proofs.Ytcdielgpmnhmjaa
namespace Go.Proofs.Ytcdielgpmnhmjaa
set_option linter.unusedVariables false

/-- the row above a row -/
def nxt : List (List Pt) → List (List Pt)
  | a :: b :: r => compL a b :: nxt r
  | _ => []
theorem nxt_len : ∀ l, (nxt l).length = l.length / 2
  | [] => by simp [nxt]
  | [_] => by simp [nxt]
  | a :: b :: r => by
    simp only [nxt, List.length_cons, nxt_len r]
    omega
theorem nxt_at : ∀ (l : List (List Pt)) (k : Nat) (a b : List Pt), l[2 * k]? = some a → l[2 * k + 1]? = some b → (nxt l)[k]? = some (compL a b)
  | [], k, a, b, h, _ => by simp at h
  | [x], k, a, b, _, h => by
    simp at h
  | x :: y :: r, 0, a, b, h1, h2 => by
    simp at h1 h2
    subst h1; subst h2
    rfl
  | x :: y :: r, k + 1, a, b, h1, h2 => by
    rw [show 2 * (k + 1) = 2 * k + 1 + 1 by omega, List.getElem?_cons_succ, List.getElem?_cons_succ] at h1
    rw [show 2 * (k + 1) + 1 = (2 * k + 1) + 1 + 1 by omega, List.getElem?_cons_succ, List.getElem?_cons_succ] at h2
    simp only [nxt, List.getElem?_cons_succ]
    exact nxt_at r k a b h1 h2
/-- the n-th row -/
def lvl (l : List (List Pt)) : Nat → List (List Pt)
  | 0 => l
  | n + 1 => nxt (lvl l n)
theorem lev_len (l : List (List Pt)) (n : Nat) : (lvl l n).length = l.length / 2 ^ n := by
  induction n with
  | zero => simp [lvl]
  | succ n ih => rw [lvl, nxt_len, ih, Nat.div_div_eq_div_mul, Nat.pow_succ]
end Go.Proofs.Ytcdielgpmnhmjaa
namespace Go.Proofs.Ytcdielgpmnhmjaa
set_option linter.unusedVariables false

def bk (base : ByteArray) (l : List Rv) (p q : Nat) : List Pt := btw (allL (txt base l p).size) ((l.drop p).take (q - p))
theorem bk_one {base : ByteArray} {l : List Rv} (h : txE base l = 0) (k : Nat) (hk : k < l.length) : bk base l k (k + 1) = (l[k]).2.2 := by
  have hp := txE_parts h
  have h5 := txt_size l base k hp.1
  have hda := do_all h5
  have ht := txr_drop l base k hp.2.2
  have hd : l.drop k = l[k] :: l.drop (k + 1) := List.drop_eq_getElem_cons hk
  rw [hd] at ht
  obtain ⟨c1, _, _⟩ := btw_step hda.1 (show txr (doS (allL (txt base l k).size) (txt base l k)) (l[k] :: l.drop (k + 1)) = 0 by rw [hda.2]; exact ht)
  have kc := comp_chk c1
  have hn : nI (units (l[k]).2.2) = (txt base l k).size := by rw [← kc.2.2.1, ← do_size hda.1, hda.2]
  have e := (all_left kc.2.1).2
  rw [hn] at e
  unfold bk
  rw [hd, show k + 1 - k = 1 by omega]
  exact e
theorem lev_bk {base : ByteArray} {l : List Rv} (h : txE base l = 0) : ∀ n k, (k + 1) * 2 ^ n ≤ l.length → (lvl (l.map fun r => r.2.2) n)[k]? = some (bk base l (k * 2 ^ n) ((k + 1) * 2 ^ n))
  | 0, k, hk => by
    simp only [Nat.pow_zero, Nat.mul_one] at hk ⊢
    rw [bk_one h k (by omega)]
    simp only [lvl, List.getElem?_map, List.getElem?_eq_getElem (show k < l.length by omega), Option.map_some]
  | n + 1, k, hk => by
    have e : 2 ^ (n + 1) = 2 * 2 ^ n := by rw [Nat.pow_succ, Nat.mul_comm]
    rw [e] at hk ⊢
    have e1 : k * (2 * 2 ^ n) = 2 * k * 2 ^ n := by rw [← Nat.mul_assoc, Nat.mul_comm k 2]
    have e2 : (k + 1) * (2 * 2 ^ n) = (2 * k + 1 + 1) * 2 ^ n := by rw [← Nat.mul_assoc, show (k + 1) * 2 = 2 * k + 1 + 1 by omega]
    rw [e1, e2]
    rw [e2] at hk
    have h1 : 2 * k * 2 ^ n ≤ (2 * k + 1) * 2 ^ n := Nat.mul_le_mul_right _ (by omega)
    have h2 : (2 * k + 1) * 2 ^ n ≤ (2 * k + 1 + 1) * 2 ^ n := Nat.mul_le_mul_right _ (by omega)
    have a := lev_bk h n (2 * k) (by omega)
    have b := lev_bk h n (2 * k + 1) hk
    have p := parts_law h _ _ _ h1 h2 hk
    have := nxt_at _ k _ _ a b
    rw [lvl, this]
    exact congrArg some p.2
end Go.Proofs.Ytcdielgpmnhmjaa
namespace Go.Proofs.Ytcdielgpmnhmjaa
set_option linter.unusedVariables false

def tiersF : Nat → List (List Pt) → List (List (List Pt))
  | 0, _ => []
  | f + 1, r => if r.length = 0 then [] else r :: tiersF f (nxt r)
def tiersL (l : List Rv) : List (List (List Pt)) := tiersF 8 (l.map fun r => r.2.2)
theorem lev_nxt (l : List (List Pt)) : ∀ n, lvl (nxt l) n = nxt (lvl l n)
  | 0 => rfl
  | n + 1 => by rw [lvl, lev_nxt l n]; rfl
theorem tiersF_at : ∀ (f : Nat) (r : List (List Pt)) (n : Nat) (x : List (List Pt)), (tiersF f r)[n]? = some x → x = lvl r n ∧ 0 < x.length
  | 0, r, n, x, h => by simp [tiersF] at h
  | f + 1, r, n, x, h => by
    by_cases h0 : r.length = 0
    · rw [tiersF, if_pos h0] at h; simp at h
    · rw [tiersF, if_neg h0] at h
      match n with
      | 0 =>
        simp only [List.getElem?_cons_zero, Option.some.injEq] at h
        subst h
        exact ⟨rfl, by omega⟩
      | n + 1 =>
        rw [List.getElem?_cons_succ] at h
        have := tiersF_at f _ n x h
        rw [lev_nxt] at this
        exact this
theorem tiersF_len : ∀ (f : Nat) (r : List (List Pt)), r.length < 2 ^ f → r.length / 2 ^ (tiersF f r).length = 0
  | 0, r, h => by simp at h; simp [tiersF, h]
  | f + 1, r, h => by
    by_cases h0 : r.length = 0
    · rw [tiersF, if_pos h0]; simp [h0]
    · rw [tiersF, if_neg h0, List.length_cons]
      have h1 : (nxt r).length < 2 ^ f := by
        rw [nxt_len, Nat.div_lt_iff_lt_mul (by decide)]
        rw [Nat.pow_succ] at h
        exact h
      have := tiersF_len f (nxt r) h1
      rw [nxt_len, Nat.div_div_eq_div_mul] at this
      rw [Nat.pow_succ, Nat.mul_comm]
      exact this
theorem tiersF_le : ∀ (f : Nat) (r : List (List Pt)), (tiersF f r).length ≤ f
  | 0, r => by simp [tiersF]
  | f + 1, r => by
    by_cases h0 : r.length = 0
    · rw [tiersF, if_pos h0]; simp
    · rw [tiersF, if_neg h0, List.length_cons]; have := tiersF_le f (nxt r); omega
theorem tiersF_pos {f : Nat} {r : List (List Pt)} (h : r.length ≠ 0) : 0 < (tiersF (f + 1) r).length := by
  rw [tiersF, if_neg h]; simp
/-- two neighbours of a level are joined without fail -/
theorem lev_comp {base : ByteArray} {l : List Rv} (h : txE base l = 0) (n k : Nat) (a b : List Pt) (ha : (lvl (l.map fun r => r.2.2) n)[2 * k]? = some a)
    (hb : (lvl (l.map fun r => r.2.2) n)[2 * k + 1]? = some b) : compE a b = 0 := by
  have hlen := lev_len (l.map fun r => r.2.2) n
  rw [List.length_map] at hlen
  have hlt : 2 * k + 1 < l.length / 2 ^ n := by
    rw [← hlen]
    exact (List.getElem?_eq_some_iff.1 hb).1
  have hm : (2 * k + 1 + 1) * 2 ^ n ≤ l.length := by
    have := Nat.div_mul_le_self l.length (2 ^ n)
    have h2 : (2 * k + 1 + 1) * 2 ^ n ≤ l.length / 2 ^ n * 2 ^ n := Nat.mul_le_mul_right _ (by omega)
    omega
  have h1 : 2 * k * 2 ^ n ≤ (2 * k + 1) * 2 ^ n := Nat.mul_le_mul_right _ (by omega)
  have h2 : (2 * k + 1) * 2 ^ n ≤ (2 * k + 1 + 1) * 2 ^ n := Nat.mul_le_mul_right _ (by omega)
  have ea := lev_bk h n (2 * k) (by omega)
  have eb := lev_bk h n (2 * k + 1) hm
  rw [ea] at ha
  rw [eb] at hb
  injection ha with ha
  injection hb with hb
  subst ha; subst hb
  exact (parts_law h _ _ _ h1 h2 hm).1
end Go.Proofs.Ytcdielgpmnhmjaa
