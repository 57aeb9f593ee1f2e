/- Contract of tier.Cover and of slices.Equal on blocks. Deltas byte by byte: plain lists, no program. A unit is a byte kept (none), cut (some none) or put (some (some b)). -/
import Derived.Test.YtfncpcmaplhojaaMTierOwn1
import Derived.Below
namespace Go.Proofs.Ytfncpcmaplhojaa
open Go.ChangeShapes Go.WideShapes Go.RowKit
set_option linter.unusedVariables false
set_option linter.unusedSimpArgs false
set_option maxRecDepth 100000
set_option maxHeartbeats 4000000

def lev (i k : Nat) : Nat → Nat → Nat
  | 0, n => n
  | f + 1, n => if i % 2 ^ (n + 1) = 0 ∧ i + 2 ^ (n + 1) ≤ k then lev i k f (n + 1) else n
def coverL : Nat → Nat → Nat → List (Nat × Nat)
  | 0, _, _ => []
  | f + 1, i, k => if i < k then (lev i k 8 0, i / 2 ^ lev i k 8 0) :: coverL f (i + 2 ^ lev i k 8 0) k else []
def bcells (b : Nat × Nat) : List Value := [.int .i64 b.1, .int .i64 b.2]
def OwnBlocks (w : World) (B : Nat) (v : Value) (l : List (Nat × Nat)) : Prop := w.ownsRow B 123 2 v l.length (l.flatMap bcells)

theorem cover_bad (i k : Int) (w : World) (h : i < 0 ∨ 64 < k ∨ k < i) :
    Calls Try.prog 63 #[.int .i64 i, .int .i64 k] w fun e w' => e = .returned (.tuple #[.slice none 0 0, .int .i64 1]) ∧ w = w' := by
  by_cases h1 : i < 0
  · go_enter Try.func63, Try.ntmps63
    go_wp2_with fail
    go_ret2
    exact ⟨rfl, rfl⟩
  by_cases h2 : 64 < k
  · go_enter Try.func63, Try.ntmps63
    go_wp2_with fail
    go_ret2
    exact ⟨rfl, rfl⟩
  · have h3 : k < i := by omega
    go_enter Try.func63, Try.ntmps63
    go_wp2_with fail
    go_ret2
    exact ⟨rfl, rfl⟩

theorem Try.info_block : (Try.prog.info? 123).map (fun i => (i.zero, i.size, i.bytes)) = some (some (.agg #[.int .i64 0, .int .i64 0]), 2, 16) := by kernel_rfl
theorem wpList_app_block {ops : Array Oper} {rest : List Oper} {o : Oper} {a : Act} {Q : Exit → Act → World → Prop} (w : World) (hgd : o.guard = none) (s x : Operand)
    (ho : o.op = .call { callee := .builtin .append, args := #[s, x], argTypes := #[119, 119] })
    (B : Nat) (v : Value) (l : List (Nat × Nat)) (hs : a.eval s = v) (hown : OwnBlocks w B v l)
    (cs : Array Value) (c : Nat) (hx : a.eval x = .slice (some ⟨w.heap.size, 0, none⟩) 1 c) (b : Nat × Nat) (hb : cs = (bcells b).toArray)
    (hn : l.length ≤ 100000000) (hB : B ≤ w.heap.size)
    (h : ∀ v' w', OwnBlocks w' B v' (l ++ [b]) → Below B w w' → wpList Try.prog ops Q rest (a.put o.dst v') w') :
    wpList Try.prog ops Q (o :: rest) a (w.alloc (.cells cs 123)) := by
  obtain ⟨i0, hi, hz0, hz1, hz2⟩ := info_parts Try.info_block
  subst hb
  refine wpList_app1 w hgd s x 119 ho B 123 i0 _ 2 16 Try.underlying119 hi hz0 hz1 hz2 rfl (by omega) (by omega) v _ _ hs hown _ c hx rfl (by simp [bcells, Value.oneCell']) hn hB ?_
  intro v' w' h1 h2 h3 h4
  exact h v' w' (by simpa [OwnBlocks] using h1) h2
theorem cover_good (i0 k : Nat) (w : World) (h1 : (k : Int) ≤ 64) (h2 : (i0 : Int) ≤ k) :
    Calls Try.prog 63 #[.int .i64 i0, .int .i64 k] w fun e w' => ∃ v, e = .returned (.tuple #[v, .int .i64 0]) ∧ OwnBlocks w' w.heap.size v (coverL 65 i0 k) ∧ Below w.heap.size w w' := by
  have hd3 : decide (k < i0) = false := by simp; omega
  go_enter Try.func63, Try.ntmps63
  go_wp2_with fail
  go_loopw [0, 6, 7] (fun i v n wr => ∃ (j f : Nat) (l : List (Nat × Nat)), i = .int .i64 j ∧ (j : Int) ≤ k ∧ l.length ≤ j ∧ 65 - f ≤ j ∧ OwnBlocks wr w.heap.size v l ∧ Hid (l ++ coverL f j k = coverL 65 i0 k) ∧ Below w.heap.size w wr) (fun i _ _ _ => 64 - (intOf i).toNat)
  case atStart => exact ⟨i0, 65, [], rfl, h2, by simp, by omega, World.ownsRow_nil _ _ _ _, Lib.hid rfl, Below.refl _ _⟩
  case round =>
    obtain ⟨j, f, l, rfl, hj, hll, hf, hown, hl, hb⟩ := hrel
    by_cases hlt : (j : Int) < k
    · obtain ⟨f, rfl⟩ : ∃ f', f = f' + 1 := ⟨f - 1, by omega⟩
      go_wp2_with fail
      obtain ⟨wo, rfl⟩ : ∃ wo : World, wo = wr := ⟨_, rfl⟩
      go_loop [7] (fun n => ∃ m g : Nat, n = .int .i64 m ∧ m + g = 8 ∧ m ≤ 6 ∧ Hid (j + 2 ^ m ≤ k) ∧ Hid (lev j k g m = lev j k 8 0)) (fun n => 8 - (intOf n).toNat)
      case atStart => exact ⟨0, 8, rfl, by omega, by omega, Lib.hid (by omega), Lib.hid rfl⟩
      case round =>
        obtain ⟨m, g, rfl, hmg, hm, hjm, hlev⟩ := hrel
        have hcs : m = 0 ∨ m = 1 ∨ m = 2 ∨ m = 3 ∨ m = 4 ∨ m = 5 ∨ m = 6 := by omega
        have hjm2 := hjm.out
        have Hb := Lib.hid hb
        have Hown := Lib.hid hown
        have hbs := hb.size
        obtain rfl : g = 8 - m := by omega
        clear hjm hb hown hmg
        rcases hcs with rfl | rfl | rfl | rfl | rfl | rfl | rfl
        · have hlv : lev j k 8 0 = lev j k 8 0 := hlev.out
          have hjm2 : j + 1 ≤ k := hjm2
          have hdec : lev j k 8 0 = if j % 2 = 0 ∧ j + 2 ≤ k then lev j k 7 1 else 0 := rfl
          by_cases hmod : (j : Int) % 2 = 0
          · have h1 : ((j : Int) % 2 == 0) = true := by rw [beq_iff_eq]; exact hmod
            by_cases h2 : (j : Int) + 2 ≤ k
            · have hlev' : Hid (lev j k 7 1 = lev j k 8 0) := by
                rw [← hlv, hdec, if_pos (by omega)]; exact Lib.hid rfl
              clear hdec hmod hlv hlev
              go_wp2_with fail
              go_round
              case rel => exact ⟨1, 7, rfl, by omega, by omega, Lib.hid (by omega), hlev'⟩
              case measure => simp [intOf]
            · have hL : Hid (lev j k 8 0 = 0) := by
                rw [← hlv, hdec, if_neg (by omega)]; exact Lib.hid rfl
              have hl' : Hid ((l ++ [(0, j / 1)]) ++ coverL f (j + 1) k = coverL 65 i0 k) := by
                rw [← hl.out]
                conv => rhs; rw [coverL, if_pos (by omega), hL.out]
                exact Lib.hid (by simp)
              have hjm3 : (j : Int) + 1 ≤ k := by omega
              clear hdec hmod hL hl hlev hlv
              go_wp2_with fail
              refine wp_loop_rounds 1 ?_
              rw [rounds_succ]
              go_wp2_with (first | (at_builtin; refine wpList_app_block _ rfl (.tmp 45) (.tmp 51) rfl w.heap.size _ l rfl Hown.out _ 1 rfl (0, j / 1) (by simp [bcells]) (by omega) hbs ?_; intro v1 w1 hown1 hb1))
              go_roundw
              case rel => exact ⟨j + 1, f, l ++ [(0, j / 1)], by go_num, by omega, by simp; omega, by omega, hown1, hl', Hb.out.trans hb1⟩
              case measure => simp [intOf]; omega
          · have h1 : ((j : Int) % 2 == 0) = false := by rw [beq_eq_false_iff_ne]; exact hmod
            have hL : Hid (lev j k 8 0 = 0) := by
              rw [← hlv, hdec, if_neg (by omega)]; exact Lib.hid rfl
            have hl' : Hid ((l ++ [(0, j / 1)]) ++ coverL f (j + 1) k = coverL 65 i0 k) := by
              rw [← hl.out]
              conv => rhs; rw [coverL, if_pos (by omega), hL.out]
              exact Lib.hid (by simp)
            have hjm3 : (j : Int) + 1 ≤ k := by omega
            clear hdec hmod hL hl hlev hlv
            go_wp2_with fail
            refine wp_loop_rounds 1 ?_
            rw [rounds_succ]
            go_wp2_with (first | (at_builtin; refine wpList_app_block _ rfl (.tmp 45) (.tmp 51) rfl w.heap.size _ l rfl Hown.out _ 1 rfl (0, j / 1) (by simp [bcells]) (by omega) hbs ?_; intro v1 w1 hown1 hb1))
            go_roundw
            case rel => exact ⟨j + 1, f, l ++ [(0, j / 1)], by go_num, by omega, by simp; omega, by omega, hown1, hl', Hb.out.trans hb1⟩
            case measure => simp [intOf]; omega
        · have hlv : lev j k 7 1 = lev j k 8 0 := hlev.out
          have hjm2 : j + 2 ≤ k := hjm2
          have hdec : lev j k 7 1 = if j % 4 = 0 ∧ j + 4 ≤ k then lev j k 6 2 else 1 := rfl
          by_cases hmod : (j : Int) % 4 = 0
          · have h1 : ((j : Int) % 4 == 0) = true := by rw [beq_iff_eq]; exact hmod
            by_cases h2 : (j : Int) + 4 ≤ k
            · have hlev' : Hid (lev j k 6 2 = lev j k 8 0) := by
                rw [← hlv, hdec, if_pos (by omega)]; exact Lib.hid rfl
              clear hdec hmod hlv hlev
              go_wp2_with fail
              go_round
              case rel => exact ⟨2, 6, rfl, by omega, by omega, Lib.hid (by omega), hlev'⟩
              case measure => simp [intOf]
            · have hL : Hid (lev j k 8 0 = 1) := by
                rw [← hlv, hdec, if_neg (by omega)]; exact Lib.hid rfl
              have hl' : Hid ((l ++ [(1, j / 2)]) ++ coverL f (j + 2) k = coverL 65 i0 k) := by
                rw [← hl.out]
                conv => rhs; rw [coverL, if_pos (by omega), hL.out]
                exact Lib.hid (by simp)
              have hjm3 : (j : Int) + 2 ≤ k := by omega
              clear hdec hmod hL hl hlev hlv
              go_wp2_with fail
              refine wp_loop_rounds 1 ?_
              rw [rounds_succ]
              go_wp2_with (first | (at_builtin; refine wpList_app_block _ rfl (.tmp 45) (.tmp 51) rfl w.heap.size _ l rfl Hown.out _ 1 rfl (1, j / 2) (by simp [bcells]) (by omega) hbs ?_; intro v1 w1 hown1 hb1))
              go_roundw
              case rel => exact ⟨j + 2, f, l ++ [(1, j / 2)], by go_num, by omega, by simp; omega, by omega, hown1, hl', Hb.out.trans hb1⟩
              case measure => simp [intOf]; omega
          · have h1 : ((j : Int) % 4 == 0) = false := by rw [beq_eq_false_iff_ne]; exact hmod
            have hL : Hid (lev j k 8 0 = 1) := by
              rw [← hlv, hdec, if_neg (by omega)]; exact Lib.hid rfl
            have hl' : Hid ((l ++ [(1, j / 2)]) ++ coverL f (j + 2) k = coverL 65 i0 k) := by
              rw [← hl.out]
              conv => rhs; rw [coverL, if_pos (by omega), hL.out]
              exact Lib.hid (by simp)
            have hjm3 : (j : Int) + 2 ≤ k := by omega
            clear hdec hmod hL hl hlev hlv
            go_wp2_with fail
            refine wp_loop_rounds 1 ?_
            rw [rounds_succ]
            go_wp2_with (first | (at_builtin; refine wpList_app_block _ rfl (.tmp 45) (.tmp 51) rfl w.heap.size _ l rfl Hown.out _ 1 rfl (1, j / 2) (by simp [bcells]) (by omega) hbs ?_; intro v1 w1 hown1 hb1))
            go_roundw
            case rel => exact ⟨j + 2, f, l ++ [(1, j / 2)], by go_num, by omega, by simp; omega, by omega, hown1, hl', Hb.out.trans hb1⟩
            case measure => simp [intOf]; omega
        · have hlv : lev j k 6 2 = lev j k 8 0 := hlev.out
          have hjm2 : j + 4 ≤ k := hjm2
          have hdec : lev j k 6 2 = if j % 8 = 0 ∧ j + 8 ≤ k then lev j k 5 3 else 2 := rfl
          by_cases hmod : (j : Int) % 8 = 0
          · have h1 : ((j : Int) % 8 == 0) = true := by rw [beq_iff_eq]; exact hmod
            by_cases h2 : (j : Int) + 8 ≤ k
            · have hlev' : Hid (lev j k 5 3 = lev j k 8 0) := by
                rw [← hlv, hdec, if_pos (by omega)]; exact Lib.hid rfl
              clear hdec hmod hlv hlev
              go_wp2_with fail
              go_round
              case rel => exact ⟨3, 5, rfl, by omega, by omega, Lib.hid (by omega), hlev'⟩
              case measure => simp [intOf]
            · have hL : Hid (lev j k 8 0 = 2) := by
                rw [← hlv, hdec, if_neg (by omega)]; exact Lib.hid rfl
              have hl' : Hid ((l ++ [(2, j / 4)]) ++ coverL f (j + 4) k = coverL 65 i0 k) := by
                rw [← hl.out]
                conv => rhs; rw [coverL, if_pos (by omega), hL.out]
                exact Lib.hid (by simp)
              have hjm3 : (j : Int) + 4 ≤ k := by omega
              clear hdec hmod hL hl hlev hlv
              go_wp2_with fail
              refine wp_loop_rounds 1 ?_
              rw [rounds_succ]
              go_wp2_with (first | (at_builtin; refine wpList_app_block _ rfl (.tmp 45) (.tmp 51) rfl w.heap.size _ l rfl Hown.out _ 1 rfl (2, j / 4) (by simp [bcells]) (by omega) hbs ?_; intro v1 w1 hown1 hb1))
              go_roundw
              case rel => exact ⟨j + 4, f, l ++ [(2, j / 4)], by go_num, by omega, by simp; omega, by omega, hown1, hl', Hb.out.trans hb1⟩
              case measure => simp [intOf]; omega
          · have h1 : ((j : Int) % 8 == 0) = false := by rw [beq_eq_false_iff_ne]; exact hmod
            have hL : Hid (lev j k 8 0 = 2) := by
              rw [← hlv, hdec, if_neg (by omega)]; exact Lib.hid rfl
            have hl' : Hid ((l ++ [(2, j / 4)]) ++ coverL f (j + 4) k = coverL 65 i0 k) := by
              rw [← hl.out]
              conv => rhs; rw [coverL, if_pos (by omega), hL.out]
              exact Lib.hid (by simp)
            have hjm3 : (j : Int) + 4 ≤ k := by omega
            clear hdec hmod hL hl hlev hlv
            go_wp2_with fail
            refine wp_loop_rounds 1 ?_
            rw [rounds_succ]
            go_wp2_with (first | (at_builtin; refine wpList_app_block _ rfl (.tmp 45) (.tmp 51) rfl w.heap.size _ l rfl Hown.out _ 1 rfl (2, j / 4) (by simp [bcells]) (by omega) hbs ?_; intro v1 w1 hown1 hb1))
            go_roundw
            case rel => exact ⟨j + 4, f, l ++ [(2, j / 4)], by go_num, by omega, by simp; omega, by omega, hown1, hl', Hb.out.trans hb1⟩
            case measure => simp [intOf]; omega
        · have hlv : lev j k 5 3 = lev j k 8 0 := hlev.out
          have hjm2 : j + 8 ≤ k := hjm2
          have hdec : lev j k 5 3 = if j % 16 = 0 ∧ j + 16 ≤ k then lev j k 4 4 else 3 := rfl
          by_cases hmod : (j : Int) % 16 = 0
          · have h1 : ((j : Int) % 16 == 0) = true := by rw [beq_iff_eq]; exact hmod
            by_cases h2 : (j : Int) + 16 ≤ k
            · have hlev' : Hid (lev j k 4 4 = lev j k 8 0) := by
                rw [← hlv, hdec, if_pos (by omega)]; exact Lib.hid rfl
              clear hdec hmod hlv hlev
              go_wp2_with fail
              go_round
              case rel => exact ⟨4, 4, rfl, by omega, by omega, Lib.hid (by omega), hlev'⟩
              case measure => simp [intOf]
            · have hL : Hid (lev j k 8 0 = 3) := by
                rw [← hlv, hdec, if_neg (by omega)]; exact Lib.hid rfl
              have hl' : Hid ((l ++ [(3, j / 8)]) ++ coverL f (j + 8) k = coverL 65 i0 k) := by
                rw [← hl.out]
                conv => rhs; rw [coverL, if_pos (by omega), hL.out]
                exact Lib.hid (by simp)
              have hjm3 : (j : Int) + 8 ≤ k := by omega
              clear hdec hmod hL hl hlev hlv
              go_wp2_with fail
              refine wp_loop_rounds 1 ?_
              rw [rounds_succ]
              go_wp2_with (first | (at_builtin; refine wpList_app_block _ rfl (.tmp 45) (.tmp 51) rfl w.heap.size _ l rfl Hown.out _ 1 rfl (3, j / 8) (by simp [bcells]) (by omega) hbs ?_; intro v1 w1 hown1 hb1))
              go_roundw
              case rel => exact ⟨j + 8, f, l ++ [(3, j / 8)], by go_num, by omega, by simp; omega, by omega, hown1, hl', Hb.out.trans hb1⟩
              case measure => simp [intOf]; omega
          · have h1 : ((j : Int) % 16 == 0) = false := by rw [beq_eq_false_iff_ne]; exact hmod
            have hL : Hid (lev j k 8 0 = 3) := by
              rw [← hlv, hdec, if_neg (by omega)]; exact Lib.hid rfl
            have hl' : Hid ((l ++ [(3, j / 8)]) ++ coverL f (j + 8) k = coverL 65 i0 k) := by
              rw [← hl.out]
              conv => rhs; rw [coverL, if_pos (by omega), hL.out]
              exact Lib.hid (by simp)
            have hjm3 : (j : Int) + 8 ≤ k := by omega
            clear hdec hmod hL hl hlev hlv
            go_wp2_with fail
            refine wp_loop_rounds 1 ?_
            rw [rounds_succ]
            go_wp2_with (first | (at_builtin; refine wpList_app_block _ rfl (.tmp 45) (.tmp 51) rfl w.heap.size _ l rfl Hown.out _ 1 rfl (3, j / 8) (by simp [bcells]) (by omega) hbs ?_; intro v1 w1 hown1 hb1))
            go_roundw
            case rel => exact ⟨j + 8, f, l ++ [(3, j / 8)], by go_num, by omega, by simp; omega, by omega, hown1, hl', Hb.out.trans hb1⟩
            case measure => simp [intOf]; omega
        · have hlv : lev j k 4 4 = lev j k 8 0 := hlev.out
          have hjm2 : j + 16 ≤ k := hjm2
          have hdec : lev j k 4 4 = if j % 32 = 0 ∧ j + 32 ≤ k then lev j k 3 5 else 4 := rfl
          by_cases hmod : (j : Int) % 32 = 0
          · have h1 : ((j : Int) % 32 == 0) = true := by rw [beq_iff_eq]; exact hmod
            by_cases h2 : (j : Int) + 32 ≤ k
            · have hlev' : Hid (lev j k 3 5 = lev j k 8 0) := by
                rw [← hlv, hdec, if_pos (by omega)]; exact Lib.hid rfl
              clear hdec hmod hlv hlev
              go_wp2_with fail
              go_round
              case rel => exact ⟨5, 3, rfl, by omega, by omega, Lib.hid (by omega), hlev'⟩
              case measure => simp [intOf]
            · have hL : Hid (lev j k 8 0 = 4) := by
                rw [← hlv, hdec, if_neg (by omega)]; exact Lib.hid rfl
              have hl' : Hid ((l ++ [(4, j / 16)]) ++ coverL f (j + 16) k = coverL 65 i0 k) := by
                rw [← hl.out]
                conv => rhs; rw [coverL, if_pos (by omega), hL.out]
                exact Lib.hid (by simp)
              have hjm3 : (j : Int) + 16 ≤ k := by omega
              clear hdec hmod hL hl hlev hlv
              go_wp2_with fail
              refine wp_loop_rounds 1 ?_
              rw [rounds_succ]
              go_wp2_with (first | (at_builtin; refine wpList_app_block _ rfl (.tmp 45) (.tmp 51) rfl w.heap.size _ l rfl Hown.out _ 1 rfl (4, j / 16) (by simp [bcells]) (by omega) hbs ?_; intro v1 w1 hown1 hb1))
              go_roundw
              case rel => exact ⟨j + 16, f, l ++ [(4, j / 16)], by go_num, by omega, by simp; omega, by omega, hown1, hl', Hb.out.trans hb1⟩
              case measure => simp [intOf]; omega
          · have h1 : ((j : Int) % 32 == 0) = false := by rw [beq_eq_false_iff_ne]; exact hmod
            have hL : Hid (lev j k 8 0 = 4) := by
              rw [← hlv, hdec, if_neg (by omega)]; exact Lib.hid rfl
            have hl' : Hid ((l ++ [(4, j / 16)]) ++ coverL f (j + 16) k = coverL 65 i0 k) := by
              rw [← hl.out]
              conv => rhs; rw [coverL, if_pos (by omega), hL.out]
              exact Lib.hid (by simp)
            have hjm3 : (j : Int) + 16 ≤ k := by omega
            clear hdec hmod hL hl hlev hlv
            go_wp2_with fail
            refine wp_loop_rounds 1 ?_
            rw [rounds_succ]
            go_wp2_with (first | (at_builtin; refine wpList_app_block _ rfl (.tmp 45) (.tmp 51) rfl w.heap.size _ l rfl Hown.out _ 1 rfl (4, j / 16) (by simp [bcells]) (by omega) hbs ?_; intro v1 w1 hown1 hb1))
            go_roundw
            case rel => exact ⟨j + 16, f, l ++ [(4, j / 16)], by go_num, by omega, by simp; omega, by omega, hown1, hl', Hb.out.trans hb1⟩
            case measure => simp [intOf]; omega
        · have hlv : lev j k 3 5 = lev j k 8 0 := hlev.out
          have hjm2 : j + 32 ≤ k := hjm2
          have hdec : lev j k 3 5 = if j % 64 = 0 ∧ j + 64 ≤ k then lev j k 2 6 else 5 := rfl
          by_cases hmod : (j : Int) % 64 = 0
          · have h1 : ((j : Int) % 64 == 0) = true := by rw [beq_iff_eq]; exact hmod
            by_cases h2 : (j : Int) + 64 ≤ k
            · have hlev' : Hid (lev j k 2 6 = lev j k 8 0) := by
                rw [← hlv, hdec, if_pos (by omega)]; exact Lib.hid rfl
              clear hdec hmod hlv hlev
              go_wp2_with fail
              go_round
              case rel => exact ⟨6, 2, rfl, by omega, by omega, Lib.hid (by omega), hlev'⟩
              case measure => simp [intOf]
            · have hL : Hid (lev j k 8 0 = 5) := by
                rw [← hlv, hdec, if_neg (by omega)]; exact Lib.hid rfl
              have hl' : Hid ((l ++ [(5, j / 32)]) ++ coverL f (j + 32) k = coverL 65 i0 k) := by
                rw [← hl.out]
                conv => rhs; rw [coverL, if_pos (by omega), hL.out]
                exact Lib.hid (by simp)
              have hjm3 : (j : Int) + 32 ≤ k := by omega
              clear hdec hmod hL hl hlev hlv
              go_wp2_with fail
              refine wp_loop_rounds 1 ?_
              rw [rounds_succ]
              go_wp2_with (first | (at_builtin; refine wpList_app_block _ rfl (.tmp 45) (.tmp 51) rfl w.heap.size _ l rfl Hown.out _ 1 rfl (5, j / 32) (by simp [bcells]) (by omega) hbs ?_; intro v1 w1 hown1 hb1))
              go_roundw
              case rel => exact ⟨j + 32, f, l ++ [(5, j / 32)], by go_num, by omega, by simp; omega, by omega, hown1, hl', Hb.out.trans hb1⟩
              case measure => simp [intOf]; omega
          · have h1 : ((j : Int) % 64 == 0) = false := by rw [beq_eq_false_iff_ne]; exact hmod
            have hL : Hid (lev j k 8 0 = 5) := by
              rw [← hlv, hdec, if_neg (by omega)]; exact Lib.hid rfl
            have hl' : Hid ((l ++ [(5, j / 32)]) ++ coverL f (j + 32) k = coverL 65 i0 k) := by
              rw [← hl.out]
              conv => rhs; rw [coverL, if_pos (by omega), hL.out]
              exact Lib.hid (by simp)
            have hjm3 : (j : Int) + 32 ≤ k := by omega
            clear hdec hmod hL hl hlev hlv
            go_wp2_with fail
            refine wp_loop_rounds 1 ?_
            rw [rounds_succ]
            go_wp2_with (first | (at_builtin; refine wpList_app_block _ rfl (.tmp 45) (.tmp 51) rfl w.heap.size _ l rfl Hown.out _ 1 rfl (5, j / 32) (by simp [bcells]) (by omega) hbs ?_; intro v1 w1 hown1 hb1))
            go_roundw
            case rel => exact ⟨j + 32, f, l ++ [(5, j / 32)], by go_num, by omega, by simp; omega, by omega, hown1, hl', Hb.out.trans hb1⟩
            case measure => simp [intOf]; omega
        · have hlv : lev j k 2 6 = lev j k 8 0 := hlev.out
          have hjm2 : j + 64 ≤ k := hjm2
          have hdec : lev j k 2 6 = if j % 128 = 0 ∧ j + 128 ≤ k then lev j k 1 7 else 6 := rfl
          by_cases hmod : (j : Int) % 128 = 0
          · have h1 : ((j : Int) % 128 == 0) = true := by rw [beq_iff_eq]; exact hmod
            by_cases h2 : (j : Int) + 128 ≤ k
            · omega
            · have hL : Hid (lev j k 8 0 = 6) := by
                rw [← hlv, hdec, if_neg (by omega)]; exact Lib.hid rfl
              have hl' : Hid ((l ++ [(6, j / 64)]) ++ coverL f (j + 64) k = coverL 65 i0 k) := by
                rw [← hl.out]
                conv => rhs; rw [coverL, if_pos (by omega), hL.out]
                exact Lib.hid (by simp)
              have hjm3 : (j : Int) + 64 ≤ k := by omega
              clear hdec hmod hL hl hlev hlv
              go_wp2_with fail
              refine wp_loop_rounds 1 ?_
              rw [rounds_succ]
              go_wp2_with (first | (at_builtin; refine wpList_app_block _ rfl (.tmp 45) (.tmp 51) rfl w.heap.size _ l rfl Hown.out _ 1 rfl (6, j / 64) (by simp [bcells]) (by omega) hbs ?_; intro v1 w1 hown1 hb1))
              go_roundw
              case rel => exact ⟨j + 64, f, l ++ [(6, j / 64)], by go_num, by omega, by simp; omega, by omega, hown1, hl', Hb.out.trans hb1⟩
              case measure => simp [intOf]; omega
          · have h1 : ((j : Int) % 128 == 0) = false := by rw [beq_eq_false_iff_ne]; exact hmod
            have hL : Hid (lev j k 8 0 = 6) := by
              rw [← hlv, hdec, if_neg (by omega)]; exact Lib.hid rfl
            have hl' : Hid ((l ++ [(6, j / 64)]) ++ coverL f (j + 64) k = coverL 65 i0 k) := by
              rw [← hl.out]
              conv => rhs; rw [coverL, if_pos (by omega), hL.out]
              exact Lib.hid (by simp)
            have hjm3 : (j : Int) + 64 ≤ k := by omega
            clear hdec hmod hL hl hlev hlv
            go_wp2_with fail
            refine wp_loop_rounds 1 ?_
            rw [rounds_succ]
            go_wp2_with (first | (at_builtin; refine wpList_app_block _ rfl (.tmp 45) (.tmp 51) rfl w.heap.size _ l rfl Hown.out _ 1 rfl (6, j / 64) (by simp [bcells]) (by omega) hbs ?_; intro v1 w1 hown1 hb1))
            go_roundw
            case rel => exact ⟨j + 64, f, l ++ [(6, j / 64)], by go_num, by omega, by simp; omega, by omega, hown1, hl', Hb.out.trans hb1⟩
            case measure => simp [intOf]; omega
    · have hl' : l = coverL 65 i0 k := by
        rw [← hl.out]
        rcases f with _ | f
        · simp [coverL]
        · rw [coverL, if_neg (by omega)]; simp
      have Hl := Lib.hid hl'
      clear hl' hl
      go_wp2_with fail
      go_ret2
      exact ⟨u6, rfl, by rw [← Hl.out]; exact hown, hb⟩
end Go.Proofs.Ytfncpcmaplhojaa
namespace Go.Proofs.Ytfncpcmaplhojaa
set_option linter.unusedVariables false
set_option linter.unusedSimpArgs false

abbrev U := Option (Option UInt8)
/-- a part: its kind (1 kept, 2 put, 3 cut), how many bytes, which text -/
abbrev Pt := Int × Int × ByteArray
def emp : ByteArray := ⟨#[]⟩
def up (p : Pt) : List U := if p.1 = 1 then List.replicate p.2.1.toNat none else if p.1 = 2 then p.2.2.data.toList.map (fun b => some (some b)) else List.replicate p.2.1.toNat (some none)
def units (d : List Pt) : List U := d.flatMap up
/-- how many bytes go in, and out -/
def nI : List U → Nat
  | [] => 0
  | some (some _) :: r => nI r
  | _ :: r => nI r + 1
def nO : List U → Nat
  | [] => 0
  | some none :: r => nO r
  | _ :: r => nO r + 1
/-- what is done to a list of whatever sort -/
def ap {α : Type} (f : UInt8 → α) : List U → List α → List α
  | none :: us, x :: s => x :: ap f us s
  | some none :: us, _ :: s => ap f us s
  | some (some b) :: us, s => f b :: ap f us s
  | _, _ => []
theorem nI_append (a b : List U) : nI (a ++ b) = nI a + nI b := by
  induction a with
  | nil => simp [nI]
  | cons u a ih => rcases u with _ | _ | x <;> simp [nI, ih] <;> omega
theorem nO_append (a b : List U) : nO (a ++ b) = nO a + nO b := by
  induction a with
  | nil => simp [nO]
  | cons u a ih => rcases u with _ | _ | x <;> simp [nO, ih] <;> omega
theorem ap_length {α : Type} (f : UInt8 → α) : ∀ (us : List U) (s : List α), nI us = s.length → (ap f us s).length = nO us
  | [], s, _ => by simp [ap, nO]
  | none :: us, [], h => by simp [nI] at h
  | none :: us, x :: s, h => by simp [ap, nO, ap_length f us s (by simpa [nI] using h)]
  | some none :: us, [], h => by simp [nI] at h
  | some none :: us, x :: s, h => by simp [ap, nO, ap_length f us s (by simpa [nI] using h)]
  | some (some b) :: us, s, h => by simp [ap, nO, ap_length f us s (by simpa [nI] using h)]
theorem ap_append {α : Type} (f : UInt8 → α) : ∀ (us vs : List U) (s t : List α), nI us = s.length → ap f (us ++ vs) (s ++ t) = ap f us s ++ ap f vs t
  | [], vs, [], t, _ => by simp [ap]
  | [], vs, x :: s, t, h => by simp [nI] at h
  | none :: us, vs, [], t, h => by simp [nI] at h
  | none :: us, vs, x :: s, t, h => by simp [ap, ap_append f us vs s t (by simpa [nI] using h)]
  | some none :: us, vs, [], t, h => by simp [nI] at h
  | some none :: us, vs, x :: s, t, h => by simp [ap, ap_append f us vs s t (by simpa [nI] using h)]
  | some (some b) :: us, vs, s, t, h => by simp [ap, ap_append f us vs s t (by simpa [nI] using h)]
theorem ap_map {α β : Type} (g : α → β) (f : UInt8 → α) (f' : UInt8 → β) (hf : ∀ b, g (f b) = f' b) : ∀ (us : List U) (s : List α), (ap f us s).map g = ap f' us (s.map g)
  | [], s => by simp [ap]
  | none :: us, [] => by simp [ap]
  | none :: us, x :: s => by simp [ap, ap_map g f f' hf us s]
  | some none :: us, [] => by simp [ap]
  | some none :: us, x :: s => by simp [ap, ap_map g f f' hf us s]
  | some (some b) :: us, s => by simp [ap, ap_map g f f' hf us s, hf]

/-- between two kept bytes all that is put, then all that is cut -/
def insC : List U → List U
  | some (some b) :: us => some (some b) :: insC us
  | us => some none :: us
def cz : List U → List U
  | [] => []
  | some none :: us => insC (cz us)
  | u :: us => u :: cz us

theorem nI_insC (us : List U) : nI (insC us) = nI us + 1 := by
  induction us with
  | nil => rfl
  | cons u us ih => rcases u with _ | _ | x <;> simp [insC, nI, ih]
theorem nO_insC (us : List U) : nO (insC us) = nO us := by
  induction us with
  | nil => rfl
  | cons u us ih => rcases u with _ | _ | x <;> simp [insC, nO, ih]
theorem nI_cz (us : List U) : nI (cz us) = nI us := by
  induction us with
  | nil => rfl
  | cons u us ih => rcases u with _ | _ | x <;> simp [cz, nI, ih, nI_insC]
theorem nO_cz (us : List U) : nO (cz us) = nO us := by
  induction us with
  | nil => rfl
  | cons u us ih => rcases u with _ | _ | x <;> simp [cz, nO, ih, nO_insC]
theorem ap_insC {α : Type} (f : UInt8 → α) (us : List U) (y : α) (s : List α) : ap f (insC us) (y :: s) = ap f us s := by
  induction us with
  | nil => rfl
  | cons u us ih => rcases u with _ | _ | x <;> simp [insC, ap, ih]
theorem ap_cz {α : Type} (f : UInt8 → α) : ∀ (us : List U) (s : List α), nI us = s.length → ap f (cz us) s = ap f us s
  | [], s, _ => rfl
  | none :: us, [], h => by simp [nI] at h
  | none :: us, x :: s, h => by simp [cz, ap, ap_cz f us s (by simpa [nI] using h)]
  | some none :: us, [], h => by simp [nI] at h
  | some none :: us, x :: s, h => by simp [cz, ap, ap_insC, ap_cz f us s (by simpa [nI] using h)]
  | some (some b) :: us, s, h => by simp [cz, ap, ap_cz f us s (by simpa [nI] using h)]
theorem cz_insC (us : List U) : cz (insC us) = insC (cz us) := by
  induction us with
  | nil => rfl
  | cons u us ih => rcases u with _ | _ | x <;> simp [insC, cz, ih]
theorem cz_cz (us : List U) : cz (cz us) = cz us := by
  induction us with
  | nil => rfl
  | cons u us ih => rcases u with _ | _ | x <;> simp [cz, ih, cz_insC]
theorem insC_keep (a b : List U) : insC (a ++ none :: b) = insC a ++ none :: b := by
  induction a with
  | nil => rfl
  | cons u a ih => rcases u with _ | _ | x <;> simp [insC, ih]
theorem cz_keep (a b : List U) : cz (a ++ none :: b) = cz a ++ none :: cz b := by
  induction a with
  | nil => rfl
  | cons u a ih => rcases u with _ | _ | x <;> simp [cz, ih, insC_keep]
theorem cz_app_cz (a b : List U) : cz (a ++ cz b) = cz (a ++ b) := by
  induction a with
  | nil => exact cz_cz b
  | cons u a ih => rcases u with _ | _ | x <;> simp [cz, ih]
theorem cz_insC_app (a b : List U) : cz (insC a ++ b) = cz (some none :: (a ++ b)) := by
  induction a with
  | nil => rfl
  | cons u a ih => rcases u with _ | _ | x <;> simp_all [insC, cz]
theorem cz_cz_app (a b : List U) : cz (cz a ++ b) = cz (a ++ b) := by
  induction a with
  | nil => rfl
  | cons u a ih => rcases u with _ | _ | x <;> simp [cz, ih, cz_insC_app]
theorem insC_puts (p : List UInt8) (c : Nat) : insC (p.map (fun b => some (some b)) ++ List.replicate c (some none)) = p.map (fun b => some (some b)) ++ List.replicate (c + 1) (some none) := by
  induction p with
  | nil => cases c <;> rfl
  | cons x p ih => simp [insC, ih]
theorem cz_puts (p : List UInt8) (c : Nat) (us : List U) : cz (p.map (fun b => some (some b)) ++ us) = p.map (fun b => some (some b)) ++ cz us := by
  induction p with
  | nil => rfl
  | cons x p ih => simp [cz, ih]

/-- two lists of units that do the same have one form -/
def tgs (us : List U) : List (Nat ⊕ UInt8) := ap .inr us ((List.range (nI us)).map .inl)
/-- the form, made again out of what is done -/
def unt : Nat → Nat → List (Nat ⊕ UInt8) → List U
  | i, n, [] => List.replicate (n - i) (some none)
  | i, n, .inr b :: t => some (some b) :: unt i n t
  | i, n, .inl j :: t => List.replicate (j - i) (some none) ++ none :: unt (j + 1) n t
def tgf (i : Nat) (us : List U) : List (Nat ⊕ UInt8) := ap .inr us ((List.range' i (nI us)).map .inl)
theorem tgf_ge (i : Nat) : ∀ (us : List U) (j : Nat), Sum.inl j ∈ tgf i us → i ≤ j ∧ j < i + nI us := by
  intro us
  induction us generalizing i with
  | nil => intro j h; simp [tgf, ap] at h
  | cons u us ih =>
    intro j h
    rcases u with _ | _ | x
    · simp only [tgf, nI, List.range'_succ, List.map_cons, ap, List.mem_cons] at h ⊢
      rcases h with h | h
      · injection h with h; omega
      · have := ih (i + 1) j h; omega
    · simp only [tgf, nI, List.range'_succ, List.map_cons, ap] at h ⊢
      have := ih (i + 1) j h; omega
    · simp only [tgf, nI, ap, List.mem_cons] at h ⊢
      rcases h with h | h
      · cases h
      · exact ih i j h
theorem insC_unt (i n : Nat) (h : i < n) : ∀ t : List (Nat ⊕ UInt8), (∀ j, Sum.inl j ∈ t → i + 1 ≤ j) → insC (unt (i + 1) n t) = unt i n t
  | [], _ => by
    simp only [unt]
    have e : n - i = (n - (i + 1)) + 1 := by omega
    rw [e]
    cases n - (i + 1) <;> rfl
  | .inr b :: t, hj => by simp only [unt, insC]; rw [insC_unt i n h t fun j hm => hj j (by simp [hm])]
  | .inl j :: t, hj => by
    have := hj j (by simp)
    simp only [unt]
    have e : j - i = (j - (i + 1)) + 1 := by omega
    rw [insC_keep, e]
    cases j - (i + 1) <;> rfl
theorem cz_unt (i : Nat) (us : List U) : cz us = unt i (i + nI us) (tgf i us) := by
  induction us generalizing i with
  | nil => simp [cz, tgf, ap, unt, nI]
  | cons u us ih =>
    rcases u with _ | _ | x
    · simp only [cz, tgf, nI, List.range'_succ, List.map_cons, ap, unt]
      rw [ih (i + 1), Nat.sub_self, List.replicate_zero, List.nil_append, show i + 1 + nI us = i + (nI us + 1) by omega]
      rfl
    · simp only [cz, tgf, nI, List.range'_succ, List.map_cons, ap]
      rw [ih (i + 1), show i + 1 + nI us = i + (nI us + 1) by omega, insC_unt i _ (by omega)]
      · rfl
      · intro j hj; exact (tgf_ge (i + 1) us j hj).1
    · simp only [cz, tgf, nI, ap, unt]
      rw [ih i]
      rfl
theorem cz_of_tgs {us vs : List U} (hn : nI us = nI vs) (h : tgs us = tgs vs) : cz us = cz vs := by
  rw [cz_unt 0 us, cz_unt 0 vs]
  simp only [tgs, List.range_eq_range'] at h
  simp only [tgf]
  rw [h, hn]
/-- two that do the same to every list have one form -/
theorem cz_of_ap {us vs : List U} (hn : nI us = nI vs) (h : ∀ s : List (Nat ⊕ UInt8), s.length = nI us → ap .inr us s = ap .inr vs s) : cz us = cz vs := by
  refine cz_of_tgs hn ?_
  unfold tgs
  rw [h _ (by simp), hn]
theorem ap_of_cz {α : Type} (f : UInt8 → α) {us vs : List U} (h : cz us = cz vs) (s : List α) (hs : nI us = s.length) : ap f us s = ap f vs s := by
  have hn : nI us = nI vs := by rw [← nI_cz us, h, nI_cz]
  rw [← ap_cz f us s hs, h, ap_cz f vs s (by omega)]

def lead : List U → List U
  | some (some b) :: ys => some (some b) :: lead ys
  | _ => []
def rst : List U → List U
  | some (some b) :: ys => rst ys
  | ys => ys
/-- two as one -/
def cmp : List U → List U → List U
  | [], ys => lead ys
  | some none :: xs, ys => some none :: cmp xs ys
  | none :: xs, ys => lead ys ++ match rst ys with
    | none :: r => none :: cmp xs r
    | some none :: r => some none :: cmp xs r
    | _ => []
  | some (some b) :: xs, ys => lead ys ++ match rst ys with
    | none :: r => some (some b) :: cmp xs r
    | some none :: r => cmp xs r
    | _ => []
/-- two of one text, one after the other -/
def mt : List U → List U → List U × List U
  | [], ys => ((lead ys).map (fun _ => none), lead ys)
  | some (some b) :: xs, ys => (some (some b) :: (mt xs ys).1, none :: (mt xs ys).2)
  | none :: xs, ys => ((lead ys).map (fun _ => none) ++ (match rst ys with
    | none :: r => none :: (mt xs r).1
    | some none :: r => (mt xs r).1
    | _ => []), lead ys ++ (match rst ys with
    | none :: r => none :: (mt xs r).2
    | some none :: r => some none :: (mt xs r).2
    | _ => []))
  | some none :: xs, ys => ((lead ys).map (fun _ => none) ++ (match rst ys with
    | none :: r => some none :: (mt xs r).1
    | some none :: r => (mt xs r).1
    | _ => []), lead ys ++ (match rst ys with
    | none :: r => (mt xs r).2
    | some none :: r => (mt xs r).2
    | _ => []))
theorem cmp_put (xs ys : List U) (b : UInt8) (h : ∀ r, xs ≠ some none :: r) : cmp xs (some (some b) :: ys) = some (some b) :: cmp xs ys := by
  rcases xs with _ | ⟨_ | _ | x, xs⟩
  · rfl
  · rfl
  · exact absurd rfl (h xs)
  · rfl
theorem mt_put (xs ys : List U) (b : UInt8) (h : ∀ c r, xs ≠ some (some c) :: r) : mt xs (some (some b) :: ys) = (none :: (mt xs ys).1, some (some b) :: (mt xs ys).2) := by
  rcases xs with _ | ⟨_ | _ | x, xs⟩
  · rfl
  · rfl
  · rfl
  · exact absurd rfl (h x xs)
/-- induction along two as one -/
theorem cmp_ind {M : List U → List U → Prop} (h0 : M [] []) (hc : ∀ xs ys, nO xs = nI ys → M xs ys → M (some none :: xs) ys)
    (hp : ∀ xs b ys, (∀ r, xs ≠ some none :: r) → nO xs = nI ys → M xs ys → M xs (some (some b) :: ys))
    (hkk : ∀ xs ys, nO xs = nI ys → M xs ys → M (none :: xs) (none :: ys)) (hkc : ∀ xs ys, nO xs = nI ys → M xs ys → M (none :: xs) (some none :: ys))
    (hpk : ∀ b xs ys, nO xs = nI ys → M xs ys → M (some (some b) :: xs) (none :: ys)) (hpc : ∀ b xs ys, nO xs = nI ys → M xs ys → M (some (some b) :: xs) (some none :: ys)) :
    ∀ (n : Nat) (xs ys : List U), xs.length + ys.length ≤ n → nO xs = nI ys → M xs ys := by
  intro n
  induction n with
  | zero =>
    intro xs ys hn h
    obtain rfl : xs = [] := List.eq_nil_of_length_eq_zero (by omega)
    obtain rfl : ys = [] := List.eq_nil_of_length_eq_zero (by omega)
    exact h0
  | succ n ih =>
    intro xs ys hn h
    have hput : ∀ b ys', ys = some (some b) :: ys' → (∀ r, xs ≠ some none :: r) → M xs ys := by
      rintro b ys' rfl hx
      simp only [List.length_cons] at hn
      exact hp xs b ys' hx (by simpa [nI] using h) (ih _ _ (by omega) (by simpa [nI] using h))
    rcases xs with _ | ⟨_ | _ | x, xs⟩
    · rcases ys with _ | ⟨_ | _ | y, ys⟩
      · exact h0
      · simp [nO, nI] at h
      · simp [nO, nI] at h
      · exact hput y ys rfl (by simp)
    · rcases ys with _ | ⟨_ | _ | y, ys⟩
      · simp [nO, nI] at h
      · simp only [List.length_cons] at hn
        simp only [nO, nI, Nat.add_right_cancel_iff] at h
        exact hkk _ _ h (ih _ _ (by omega) h)
      · simp only [List.length_cons] at hn
        simp only [nO, nI, Nat.add_right_cancel_iff] at h
        exact hkc _ _ h (ih _ _ (by omega) h)
      · exact hput y ys rfl (by simp)
    · simp only [List.length_cons] at hn
      simp only [nO] at h
      exact hc _ _ h (ih _ _ (by omega) h)
    · rcases ys with _ | ⟨_ | _ | y, ys⟩
      · simp [nO, nI] at h
      · simp only [List.length_cons] at hn
        simp only [nO, nI, Nat.add_right_cancel_iff] at h
        exact hpk _ _ _ h (ih _ _ (by omega) h)
      · simp only [List.length_cons] at hn
        simp only [nO, nI, Nat.add_right_cancel_iff] at h
        exact hpc _ _ _ h (ih _ _ (by omega) h)
      · exact hput y ys rfl (by simp)
theorem mt_ind {M : List U → List U → Prop} (h0 : M [] []) (hx : ∀ b xs ys, nI xs = nI ys → M xs ys → M (some (some b) :: xs) ys)
    (hy : ∀ xs b ys, (∀ c r, xs ≠ some (some c) :: r) → nI xs = nI ys → M xs ys → M xs (some (some b) :: ys))
    (hkk : ∀ xs ys, nI xs = nI ys → M xs ys → M (none :: xs) (none :: ys)) (hkc : ∀ xs ys, nI xs = nI ys → M xs ys → M (none :: xs) (some none :: ys))
    (hck : ∀ xs ys, nI xs = nI ys → M xs ys → M (some none :: xs) (none :: ys)) (hcc : ∀ xs ys, nI xs = nI ys → M xs ys → M (some none :: xs) (some none :: ys)) :
    ∀ (n : Nat) (xs ys : List U), xs.length + ys.length ≤ n → nI xs = nI ys → M xs ys := by
  intro n
  induction n with
  | zero =>
    intro xs ys hn h
    obtain rfl : xs = [] := List.eq_nil_of_length_eq_zero (by omega)
    obtain rfl : ys = [] := List.eq_nil_of_length_eq_zero (by omega)
    exact h0
  | succ n ih =>
    intro xs ys hn h
    have hput : ∀ b ys', ys = some (some b) :: ys' → (∀ c r, xs ≠ some (some c) :: r) → M xs ys := by
      rintro b ys' rfl hx'
      simp only [List.length_cons] at hn
      exact hy xs b ys' hx' (by simpa [nI] using h) (ih _ _ (by omega) (by simpa [nI] using h))
    rcases xs with _ | ⟨_ | _ | x, xs⟩
    · rcases ys with _ | ⟨_ | _ | y, ys⟩
      · exact h0
      · simp [nI] at h
      · simp [nI] at h
      · exact hput y ys rfl (by simp)
    · rcases ys with _ | ⟨_ | _ | y, ys⟩
      · simp [nI] at h
      · simp only [List.length_cons] at hn
        simp only [nI, Nat.add_right_cancel_iff] at h
        exact hkk _ _ h (ih _ _ (by omega) h)
      · simp only [List.length_cons] at hn
        simp only [nI, Nat.add_right_cancel_iff] at h
        exact hkc _ _ h (ih _ _ (by omega) h)
      · exact hput y ys rfl (by simp)
    · rcases ys with _ | ⟨_ | _ | y, ys⟩
      · simp [nI] at h
      · simp only [List.length_cons] at hn
        simp only [nI, Nat.add_right_cancel_iff] at h
        exact hck _ _ h (ih _ _ (by omega) h)
      · simp only [List.length_cons] at hn
        simp only [nI, Nat.add_right_cancel_iff] at h
        exact hcc _ _ h (ih _ _ (by omega) h)
      · exact hput y ys rfl (by simp)
    · simp only [List.length_cons] at hn
      simp only [nI] at h
      exact hx _ _ _ h (ih _ _ (by omega) h)

theorem nI_cmp (xs ys : List U) (h : nO xs = nI ys) : nI (cmp xs ys) = nI xs := by
  refine cmp_ind (M := fun xs ys => nI (cmp xs ys) = nI xs) rfl ?_ ?_ ?_ ?_ ?_ ?_ _ xs ys (Nat.le_refl _) h
  · intro xs ys _ ih; simp [cmp, nI, ih]
  · intro xs b ys hx _ ih; rw [cmp_put _ _ _ hx]; simp [nI, ih]
  all_goals intros; simp_all [cmp, rst, lead, nI]
theorem nO_cmp (xs ys : List U) (h : nO xs = nI ys) : nO (cmp xs ys) = nO ys := by
  refine cmp_ind (M := fun xs ys => nO (cmp xs ys) = nO ys) rfl ?_ ?_ ?_ ?_ ?_ ?_ _ xs ys (Nat.le_refl _) h
  · intro xs ys _ ih; simp [cmp, nO, ih]
  · intro xs b ys hx _ ih; rw [cmp_put _ _ _ hx]; simp [nO, ih]
  all_goals intros; simp_all [cmp, rst, lead, nO]
theorem ap_cmp {α : Type} (f : UInt8 → α) (xs ys : List U) (h : nO xs = nI ys) : ∀ s : List α, nI xs = s.length → ap f (cmp xs ys) s = ap f ys (ap f xs s) := by
  refine cmp_ind (M := fun xs ys => ∀ s : List α, nI xs = s.length → ap f (cmp xs ys) s = ap f ys (ap f xs s)) ?_ ?_ ?_ ?_ ?_ ?_ ?_ _ xs ys (Nat.le_refl _) h
  · intro s hs; rfl
  · intro xs ys _ ih s hs
    rcases s with _ | ⟨x, s⟩
    · simp [nI] at hs
    · simp [cmp, ap, ih s (by simpa [nI] using hs)]
  · intro xs b ys hx _ ih s hs
    rw [cmp_put _ _ _ hx]
    simp [ap, ih s hs]
  · intro xs ys _ ih s hs
    rcases s with _ | ⟨x, s⟩
    · simp [nI] at hs
    · simp [cmp, rst, lead, ap, ih s (by simpa [nI] using hs)]
  · intro xs ys _ ih s hs
    rcases s with _ | ⟨x, s⟩
    · simp [nI] at hs
    · simp [cmp, rst, lead, ap, ih s (by simpa [nI] using hs)]
  · intro b xs ys _ ih s hs
    simp [cmp, rst, lead, ap, ih s (by simpa [nI] using hs)]
  · intro b xs ys _ ih s hs
    simp [cmp, rst, lead, ap, ih s (by simpa [nI] using hs)]
/-- ELLIS, GIBBS -/
theorem nI_mt (xs ys : List U) (h : nI xs = nI ys) : nI (mt xs ys).1 = nO ys ∧ nI (mt xs ys).2 = nO xs := by
  refine mt_ind (M := fun xs ys => nI (mt xs ys).1 = nO ys ∧ nI (mt xs ys).2 = nO xs) ⟨rfl, rfl⟩ ?_ ?_ ?_ ?_ ?_ ?_ _ xs ys (Nat.le_refl _) h
  · intro b xs ys _ ih; simp [mt, nI, nO, ih]
  · intro xs b ys hx _ ih; rw [mt_put _ _ _ hx]; simp [nI, nO, ih]
  all_goals intros; simp_all [mt, rst, lead, nI, nO]
theorem ap_mt {α : Type} (f : UInt8 → α) (xs ys : List U) (h : nI xs = nI ys) : ∀ s : List α, nI xs = s.length → ap f (mt xs ys).2 (ap f xs s) = ap f (mt xs ys).1 (ap f ys s) := by
  refine mt_ind (M := fun xs ys => ∀ s : List α, nI xs = s.length → ap f (mt xs ys).2 (ap f xs s) = ap f (mt xs ys).1 (ap f ys s)) ?_ ?_ ?_ ?_ ?_ ?_ ?_ _ xs ys (Nat.le_refl _) h
  · intro s hs; rfl
  · intro b xs ys _ ih s hs; simp [mt, ap, ih s (by simpa [nI] using hs)]
  · intro xs b ys hx _ ih s hs; rw [mt_put _ _ _ hx]; simp [ap, ih s hs]
  all_goals
    intro xs ys _ ih s hs
    rcases s with _ | ⟨x, s⟩
    · simp [nI] at hs
    · simp [mt, rst, lead, ap, ih s (by simpa [nI] using hs)]
end Go.Proofs.Ytfncpcmaplhojaa
