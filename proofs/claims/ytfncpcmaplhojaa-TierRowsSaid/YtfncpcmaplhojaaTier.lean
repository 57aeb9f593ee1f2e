/- Contract of tier.Cover and of slices.Equal on blocks. -/
import Derived.Test.YtfncpcmaplhojaaRd
namespace Go.Proofs.Ytfncpcmaplhojaa
open Go.ChangeShapes Go.WideShapes Go.RowKit
set_option linter.unusedVariables false
set_option linter.unusedSimpArgs false
set_option maxRecDepth 100000
set_option maxHeartbeats 4000000

def lev (i k : Nat) : Nat → Nat → Nat
  | 0, n => n
  | f + 1, n => if i % 2 ^ (n + 1) = 0 ∧ i + 2 ^ (n + 1) ≤ k then lev i k f (n + 1) else n
def coverL : Nat → Nat → Nat → List (Nat × Nat)
  | 0, _, _ => []
  | f + 1, i, k => if i < k then (lev i k 8 0, i / 2 ^ lev i k 8 0) :: coverL f (i + 2 ^ lev i k 8 0) k else []
def bcells (b : Nat × Nat) : List Value := [.int .i64 b.1, .int .i64 b.2]
def OwnBlocks (w : World) (B : Nat) (v : Value) (l : List (Nat × Nat)) : Prop := w.ownsRow B 123 2 v l.length (l.flatMap bcells)

theorem cover_bad (i k : Int) (w : World) (h : i < 0 ∨ 64 < k ∨ k < i) :
    Calls Try.prog 63 #[.int .i64 i, .int .i64 k] w fun e w' => e = .returned (.tuple #[.slice none 0 0, .int .i64 1]) ∧ w = w' := by
  by_cases h1 : i < 0
  · go_enter Try.func63, Try.ntmps63
    go_wp2_with fail
    go_ret2
    exact ⟨rfl, rfl⟩
  by_cases h2 : 64 < k
  · go_enter Try.func63, Try.ntmps63
    go_wp2_with fail
    go_ret2
    exact ⟨rfl, rfl⟩
  · have h3 : k < i := by omega
    go_enter Try.func63, Try.ntmps63
    go_wp2_with fail
    go_ret2
    exact ⟨rfl, rfl⟩

theorem Try.info_block : (Try.prog.info? 123).map (fun i => (i.zero, i.size, i.bytes)) = some (some (.agg #[.int .i64 0, .int .i64 0]), 2, 16) := by kernel_rfl
theorem wpList_app_block {ops : Array Oper} {rest : List Oper} {o : Oper} {a : Act} {Q : Exit → Act → World → Prop} (w : World) (hgd : o.guard = none) (s x : Operand)
    (ho : o.op = .call { callee := .builtin .append, args := #[s, x], argTypes := #[119, 119] })
    (B : Nat) (v : Value) (l : List (Nat × Nat)) (hs : a.eval s = v) (hown : OwnBlocks w B v l)
    (cs : Array Value) (c : Nat) (hx : a.eval x = .slice (some ⟨w.heap.size, 0, none⟩) 1 c) (b : Nat × Nat) (hb : cs = (bcells b).toArray)
    (hn : l.length ≤ 100000000) (hB : B ≤ w.heap.size)
    (h : ∀ v' w', OwnBlocks w' B v' (l ++ [b]) → Below B w w' → wpList Try.prog ops Q rest (a.put o.dst v') w') :
    wpList Try.prog ops Q (o :: rest) a (w.alloc (.cells cs 123)) := by
  obtain ⟨i0, hi, hz0, hz1, hz2⟩ := info_parts Try.info_block
  subst hb
  refine wpList_app1 w hgd s x 119 ho B 123 i0 _ 2 16 Try.underlying119 hi hz0 hz1 hz2 rfl (by omega) (by omega) v _ _ hs hown _ c hx rfl (by simp [bcells, Value.oneCell']) hn hB ?_
  intro v' w' h1 h2 h3 h4
  exact h v' w' (by simpa [OwnBlocks] using h1) h2
theorem cover_good (i0 k : Nat) (w : World) (h1 : (k : Int) ≤ 64) (h2 : (i0 : Int) ≤ k) :
    Calls Try.prog 63 #[.int .i64 i0, .int .i64 k] w fun e w' => ∃ v, e = .returned (.tuple #[v, .int .i64 0]) ∧ OwnBlocks w' w.heap.size v (coverL 65 i0 k) ∧ Below w.heap.size w w' := by
  have hd3 : decide (k < i0) = false := by simp; omega
  go_enter Try.func63, Try.ntmps63
  go_wp2_with fail
  go_loopw [0, 6, 7] (fun i v n wr => ∃ (j f : Nat) (l : List (Nat × Nat)), i = .int .i64 j ∧ (j : Int) ≤ k ∧ l.length ≤ j ∧ 65 - f ≤ j ∧ OwnBlocks wr w.heap.size v l ∧ Hid (l ++ coverL f j k = coverL 65 i0 k) ∧ Below w.heap.size w wr) (fun i _ _ _ => 64 - (intOf i).toNat)
  case atStart => exact ⟨i0, 65, [], rfl, h2, by simp, by omega, World.ownsRow_nil _ _ _ _, Lib.hid rfl, Below.refl _ _⟩
  case round =>
    obtain ⟨j, f, l, rfl, hj, hll, hf, hown, hl, hb⟩ := hrel
    by_cases hlt : (j : Int) < k
    · obtain ⟨f, rfl⟩ : ∃ f', f = f' + 1 := ⟨f - 1, by omega⟩
      go_wp2_with fail
      obtain ⟨wo, rfl⟩ : ∃ wo : World, wo = wr := ⟨_, rfl⟩
      go_loop [7] (fun n => ∃ m g : Nat, n = .int .i64 m ∧ m + g = 8 ∧ m ≤ 6 ∧ Hid (j + 2 ^ m ≤ k) ∧ Hid (lev j k g m = lev j k 8 0)) (fun n => 8 - (intOf n).toNat)
      case atStart => exact ⟨0, 8, rfl, by omega, by omega, Lib.hid (by omega), Lib.hid rfl⟩
      case round =>
        obtain ⟨m, g, rfl, hmg, hm, hjm, hlev⟩ := hrel
        have hcs : m = 0 ∨ m = 1 ∨ m = 2 ∨ m = 3 ∨ m = 4 ∨ m = 5 ∨ m = 6 := by omega
        have hjm2 := hjm.out
        have Hb := Lib.hid hb
        have Hown := Lib.hid hown
        have hbs := hb.size
        obtain rfl : g = 8 - m := by omega
        clear hjm hb hown hmg
        rcases hcs with rfl | rfl | rfl | rfl | rfl | rfl | rfl
        · have hlv : lev j k 8 0 = lev j k 8 0 := hlev.out
          have hjm2 : j + 1 ≤ k := hjm2
          have hdec : lev j k 8 0 = if j % 2 = 0 ∧ j + 2 ≤ k then lev j k 7 1 else 0 := rfl
          by_cases hmod : (j : Int) % 2 = 0
          · have h1 : ((j : Int) % 2 == 0) = true := by rw [beq_iff_eq]; exact hmod
            by_cases h2 : (j : Int) + 2 ≤ k
            · have hlev' : Hid (lev j k 7 1 = lev j k 8 0) := by
                rw [← hlv, hdec, if_pos (by omega)]; exact Lib.hid rfl
              clear hdec hmod hlv hlev
              go_wp2_with fail
              go_round
              case rel => exact ⟨1, 7, rfl, by omega, by omega, Lib.hid (by omega), hlev'⟩
              case measure => simp [intOf]
            · have hL : Hid (lev j k 8 0 = 0) := by
                rw [← hlv, hdec, if_neg (by omega)]; exact Lib.hid rfl
              have hl' : Hid ((l ++ [(0, j / 1)]) ++ coverL f (j + 1) k = coverL 65 i0 k) := by
                rw [← hl.out]
                conv => rhs; rw [coverL, if_pos (by omega), hL.out]
                exact Lib.hid (by simp)
              have hjm3 : (j : Int) + 1 ≤ k := by omega
              clear hdec hmod hL hl hlev hlv
              go_wp2_with fail
              refine wp_loop_rounds 1 ?_
              rw [rounds_succ]
              go_wp2_with (first | (at_builtin; refine wpList_app_block _ rfl (.tmp 45) (.tmp 51) rfl w.heap.size _ l rfl Hown.out _ 1 rfl (0, j / 1) (by simp [bcells]) (by omega) hbs ?_; intro v1 w1 hown1 hb1))
              go_roundw
              case rel => exact ⟨j + 1, f, l ++ [(0, j / 1)], by go_num, by omega, by simp; omega, by omega, hown1, hl', Hb.out.trans hb1⟩
              case measure => simp [intOf]; omega
          · have h1 : ((j : Int) % 2 == 0) = false := by rw [beq_eq_false_iff_ne]; exact hmod
            have hL : Hid (lev j k 8 0 = 0) := by
              rw [← hlv, hdec, if_neg (by omega)]; exact Lib.hid rfl
            have hl' : Hid ((l ++ [(0, j / 1)]) ++ coverL f (j + 1) k = coverL 65 i0 k) := by
              rw [← hl.out]
              conv => rhs; rw [coverL, if_pos (by omega), hL.out]
              exact Lib.hid (by simp)
            have hjm3 : (j : Int) + 1 ≤ k := by omega
            clear hdec hmod hL hl hlev hlv
            go_wp2_with fail
            refine wp_loop_rounds 1 ?_
            rw [rounds_succ]
            go_wp2_with (first | (at_builtin; refine wpList_app_block _ rfl (.tmp 45) (.tmp 51) rfl w.heap.size _ l rfl Hown.out _ 1 rfl (0, j / 1) (by simp [bcells]) (by omega) hbs ?_; intro v1 w1 hown1 hb1))
            go_roundw
            case rel => exact ⟨j + 1, f, l ++ [(0, j / 1)], by go_num, by omega, by simp; omega, by omega, hown1, hl', Hb.out.trans hb1⟩
            case measure => simp [intOf]; omega
        · have hlv : lev j k 7 1 = lev j k 8 0 := hlev.out
          have hjm2 : j + 2 ≤ k := hjm2
          have hdec : lev j k 7 1 = if j % 4 = 0 ∧ j + 4 ≤ k then lev j k 6 2 else 1 := rfl
          by_cases hmod : (j : Int) % 4 = 0
          · have h1 : ((j : Int) % 4 == 0) = true := by rw [beq_iff_eq]; exact hmod
            by_cases h2 : (j : Int) + 4 ≤ k
            · have hlev' : Hid (lev j k 6 2 = lev j k 8 0) := by
                rw [← hlv, hdec, if_pos (by omega)]; exact Lib.hid rfl
              clear hdec hmod hlv hlev
              go_wp2_with fail
              go_round
              case rel => exact ⟨2, 6, rfl, by omega, by omega, Lib.hid (by omega), hlev'⟩
              case measure => simp [intOf]
            · have hL : Hid (lev j k 8 0 = 1) := by
                rw [← hlv, hdec, if_neg (by omega)]; exact Lib.hid rfl
              have hl' : Hid ((l ++ [(1, j / 2)]) ++ coverL f (j + 2) k = coverL 65 i0 k) := by
                rw [← hl.out]
                conv => rhs; rw [coverL, if_pos (by omega), hL.out]
                exact Lib.hid (by simp)
              have hjm3 : (j : Int) + 2 ≤ k := by omega
              clear hdec hmod hL hl hlev hlv
              go_wp2_with fail
              refine wp_loop_rounds 1 ?_
              rw [rounds_succ]
              go_wp2_with (first | (at_builtin; refine wpList_app_block _ rfl (.tmp 45) (.tmp 51) rfl w.heap.size _ l rfl Hown.out _ 1 rfl (1, j / 2) (by simp [bcells]) (by omega) hbs ?_; intro v1 w1 hown1 hb1))
              go_roundw
              case rel => exact ⟨j + 2, f, l ++ [(1, j / 2)], by go_num, by omega, by simp; omega, by omega, hown1, hl', Hb.out.trans hb1⟩
              case measure => simp [intOf]; omega
          · have h1 : ((j : Int) % 4 == 0) = false := by rw [beq_eq_false_iff_ne]; exact hmod
            have hL : Hid (lev j k 8 0 = 1) := by
              rw [← hlv, hdec, if_neg (by omega)]; exact Lib.hid rfl
            have hl' : Hid ((l ++ [(1, j / 2)]) ++ coverL f (j + 2) k = coverL 65 i0 k) := by
              rw [← hl.out]
              conv => rhs; rw [coverL, if_pos (by omega), hL.out]
              exact Lib.hid (by simp)
            have hjm3 : (j : Int) + 2 ≤ k := by omega
            clear hdec hmod hL hl hlev hlv
            go_wp2_with fail
            refine wp_loop_rounds 1 ?_
            rw [rounds_succ]
            go_wp2_with (first | (at_builtin; refine wpList_app_block _ rfl (.tmp 45) (.tmp 51) rfl w.heap.size _ l rfl Hown.out _ 1 rfl (1, j / 2) (by simp [bcells]) (by omega) hbs ?_; intro v1 w1 hown1 hb1))
            go_roundw
            case rel => exact ⟨j + 2, f, l ++ [(1, j / 2)], by go_num, by omega, by simp; omega, by omega, hown1, hl', Hb.out.trans hb1⟩
            case measure => simp [intOf]; omega
        · have hlv : lev j k 6 2 = lev j k 8 0 := hlev.out
          have hjm2 : j + 4 ≤ k := hjm2
          have hdec : lev j k 6 2 = if j % 8 = 0 ∧ j + 8 ≤ k then lev j k 5 3 else 2 := rfl
          by_cases hmod : (j : Int) % 8 = 0
          · have h1 : ((j : Int) % 8 == 0) = true := by rw [beq_iff_eq]; exact hmod
            by_cases h2 : (j : Int) + 8 ≤ k
            · have hlev' : Hid (lev j k 5 3 = lev j k 8 0) := by
                rw [← hlv, hdec, if_pos (by omega)]; exact Lib.hid rfl
              clear hdec hmod hlv hlev
              go_wp2_with fail
              go_round
              case rel => exact ⟨3, 5, rfl, by omega, by omega, Lib.hid (by omega), hlev'⟩
              case measure => simp [intOf]
            · have hL : Hid (lev j k 8 0 = 2) := by
                rw [← hlv, hdec, if_neg (by omega)]; exact Lib.hid rfl
              have hl' : Hid ((l ++ [(2, j / 4)]) ++ coverL f (j + 4) k = coverL 65 i0 k) := by
                rw [← hl.out]
                conv => rhs; rw [coverL, if_pos (by omega), hL.out]
                exact Lib.hid (by simp)
              have hjm3 : (j : Int) + 4 ≤ k := by omega
              clear hdec hmod hL hl hlev hlv
              go_wp2_with fail
              refine wp_loop_rounds 1 ?_
              rw [rounds_succ]
              go_wp2_with (first | (at_builtin; refine wpList_app_block _ rfl (.tmp 45) (.tmp 51) rfl w.heap.size _ l rfl Hown.out _ 1 rfl (2, j / 4) (by simp [bcells]) (by omega) hbs ?_; intro v1 w1 hown1 hb1))
              go_roundw
              case rel => exact ⟨j + 4, f, l ++ [(2, j / 4)], by go_num, by omega, by simp; omega, by omega, hown1, hl', Hb.out.trans hb1⟩
              case measure => simp [intOf]; omega
          · have h1 : ((j : Int) % 8 == 0) = false := by rw [beq_eq_false_iff_ne]; exact hmod
            have hL : Hid (lev j k 8 0 = 2) := by
              rw [← hlv, hdec, if_neg (by omega)]; exact Lib.hid rfl
            have hl' : Hid ((l ++ [(2, j / 4)]) ++ coverL f (j + 4) k = coverL 65 i0 k) := by
              rw [← hl.out]
              conv => rhs; rw [coverL, if_pos (by omega), hL.out]
              exact Lib.hid (by simp)
            have hjm3 : (j : Int) + 4 ≤ k := by omega
            clear hdec hmod hL hl hlev hlv
            go_wp2_with fail
            refine wp_loop_rounds 1 ?_
            rw [rounds_succ]
            go_wp2_with (first | (at_builtin; refine wpList_app_block _ rfl (.tmp 45) (.tmp 51) rfl w.heap.size _ l rfl Hown.out _ 1 rfl (2, j / 4) (by simp [bcells]) (by omega) hbs ?_; intro v1 w1 hown1 hb1))
            go_roundw
            case rel => exact ⟨j + 4, f, l ++ [(2, j / 4)], by go_num, by omega, by simp; omega, by omega, hown1, hl', Hb.out.trans hb1⟩
            case measure => simp [intOf]; omega
        · have hlv : lev j k 5 3 = lev j k 8 0 := hlev.out
          have hjm2 : j + 8 ≤ k := hjm2
          have hdec : lev j k 5 3 = if j % 16 = 0 ∧ j + 16 ≤ k then lev j k 4 4 else 3 := rfl
          by_cases hmod : (j : Int) % 16 = 0
          · have h1 : ((j : Int) % 16 == 0) = true := by rw [beq_iff_eq]; exact hmod
            by_cases h2 : (j : Int) + 16 ≤ k
            · have hlev' : Hid (lev j k 4 4 = lev j k 8 0) := by
                rw [← hlv, hdec, if_pos (by omega)]; exact Lib.hid rfl
              clear hdec hmod hlv hlev
              go_wp2_with fail
              go_round
              case rel => exact ⟨4, 4, rfl, by omega, by omega, Lib.hid (by omega), hlev'⟩
              case measure => simp [intOf]
            · have hL : Hid (lev j k 8 0 = 3) := by
                rw [← hlv, hdec, if_neg (by omega)]; exact Lib.hid rfl
              have hl' : Hid ((l ++ [(3, j / 8)]) ++ coverL f (j + 8) k = coverL 65 i0 k) := by
                rw [← hl.out]
                conv => rhs; rw [coverL, if_pos (by omega), hL.out]
                exact Lib.hid (by simp)
              have hjm3 : (j : Int) + 8 ≤ k := by omega
              clear hdec hmod hL hl hlev hlv
              go_wp2_with fail
              refine wp_loop_rounds 1 ?_
              rw [rounds_succ]
              go_wp2_with (first | (at_builtin; refine wpList_app_block _ rfl (.tmp 45) (.tmp 51) rfl w.heap.size _ l rfl Hown.out _ 1 rfl (3, j / 8) (by simp [bcells]) (by omega) hbs ?_; intro v1 w1 hown1 hb1))
              go_roundw
              case rel => exact ⟨j + 8, f, l ++ [(3, j / 8)], by go_num, by omega, by simp; omega, by omega, hown1, hl', Hb.out.trans hb1⟩
              case measure => simp [intOf]; omega
          · have h1 : ((j : Int) % 16 == 0) = false := by rw [beq_eq_false_iff_ne]; exact hmod
            have hL : Hid (lev j k 8 0 = 3) := by
              rw [← hlv, hdec, if_neg (by omega)]; exact Lib.hid rfl
            have hl' : Hid ((l ++ [(3, j / 8)]) ++ coverL f (j + 8) k = coverL 65 i0 k) := by
              rw [← hl.out]
              conv => rhs; rw [coverL, if_pos (by omega), hL.out]
              exact Lib.hid (by simp)
            have hjm3 : (j : Int) + 8 ≤ k := by omega
            clear hdec hmod hL hl hlev hlv
            go_wp2_with fail
            refine wp_loop_rounds 1 ?_
            rw [rounds_succ]
            go_wp2_with (first | (at_builtin; refine wpList_app_block _ rfl (.tmp 45) (.tmp 51) rfl w.heap.size _ l rfl Hown.out _ 1 rfl (3, j / 8) (by simp [bcells]) (by omega) hbs ?_; intro v1 w1 hown1 hb1))
            go_roundw
            case rel => exact ⟨j + 8, f, l ++ [(3, j / 8)], by go_num, by omega, by simp; omega, by omega, hown1, hl', Hb.out.trans hb1⟩
            case measure => simp [intOf]; omega
        · have hlv : lev j k 4 4 = lev j k 8 0 := hlev.out
          have hjm2 : j + 16 ≤ k := hjm2
          have hdec : lev j k 4 4 = if j % 32 = 0 ∧ j + 32 ≤ k then lev j k 3 5 else 4 := rfl
          by_cases hmod : (j : Int) % 32 = 0
          · have h1 : ((j : Int) % 32 == 0) = true := by rw [beq_iff_eq]; exact hmod
            by_cases h2 : (j : Int) + 32 ≤ k
            · have hlev' : Hid (lev j k 3 5 = lev j k 8 0) := by
                rw [← hlv, hdec, if_pos (by omega)]; exact Lib.hid rfl
              clear hdec hmod hlv hlev
              go_wp2_with fail
              go_round
              case rel => exact ⟨5, 3, rfl, by omega, by omega, Lib.hid (by omega), hlev'⟩
              case measure => simp [intOf]
            · have hL : Hid (lev j k 8 0 = 4) := by
                rw [← hlv, hdec, if_neg (by omega)]; exact Lib.hid rfl
              have hl' : Hid ((l ++ [(4, j / 16)]) ++ coverL f (j + 16) k = coverL 65 i0 k) := by
                rw [← hl.out]
                conv => rhs; rw [coverL, if_pos (by omega), hL.out]
                exact Lib.hid (by simp)
              have hjm3 : (j : Int) + 16 ≤ k := by omega
              clear hdec hmod hL hl hlev hlv
              go_wp2_with fail
              refine wp_loop_rounds 1 ?_
              rw [rounds_succ]
              go_wp2_with (first | (at_builtin; refine wpList_app_block _ rfl (.tmp 45) (.tmp 51) rfl w.heap.size _ l rfl Hown.out _ 1 rfl (4, j / 16) (by simp [bcells]) (by omega) hbs ?_; intro v1 w1 hown1 hb1))
              go_roundw
              case rel => exact ⟨j + 16, f, l ++ [(4, j / 16)], by go_num, by omega, by simp; omega, by omega, hown1, hl', Hb.out.trans hb1⟩
              case measure => simp [intOf]; omega
          · have h1 : ((j : Int) % 32 == 0) = false := by rw [beq_eq_false_iff_ne]; exact hmod
            have hL : Hid (lev j k 8 0 = 4) := by
              rw [← hlv, hdec, if_neg (by omega)]; exact Lib.hid rfl
            have hl' : Hid ((l ++ [(4, j / 16)]) ++ coverL f (j + 16) k = coverL 65 i0 k) := by
              rw [← hl.out]
              conv => rhs; rw [coverL, if_pos (by omega), hL.out]
              exact Lib.hid (by simp)
            have hjm3 : (j : Int) + 16 ≤ k := by omega
            clear hdec hmod hL hl hlev hlv
            go_wp2_with fail
            refine wp_loop_rounds 1 ?_
            rw [rounds_succ]
            go_wp2_with (first | (at_builtin; refine wpList_app_block _ rfl (.tmp 45) (.tmp 51) rfl w.heap.size _ l rfl Hown.out _ 1 rfl (4, j / 16) (by simp [bcells]) (by omega) hbs ?_; intro v1 w1 hown1 hb1))
            go_roundw
            case rel => exact ⟨j + 16, f, l ++ [(4, j / 16)], by go_num, by omega, by simp; omega, by omega, hown1, hl', Hb.out.trans hb1⟩
            case measure => simp [intOf]; omega
        · have hlv : lev j k 3 5 = lev j k 8 0 := hlev.out
          have hjm2 : j + 32 ≤ k := hjm2
          have hdec : lev j k 3 5 = if j % 64 = 0 ∧ j + 64 ≤ k then lev j k 2 6 else 5 := rfl
          by_cases hmod : (j : Int) % 64 = 0
          · have h1 : ((j : Int) % 64 == 0) = true := by rw [beq_iff_eq]; exact hmod
            by_cases h2 : (j : Int) + 64 ≤ k
            · have hlev' : Hid (lev j k 2 6 = lev j k 8 0) := by
                rw [← hlv, hdec, if_pos (by omega)]; exact Lib.hid rfl
              clear hdec hmod hlv hlev
              go_wp2_with fail
              go_round
              case rel => exact ⟨6, 2, rfl, by omega, by omega, Lib.hid (by omega), hlev'⟩
              case measure => simp [intOf]
            · have hL : Hid (lev j k 8 0 = 5) := by
                rw [← hlv, hdec, if_neg (by omega)]; exact Lib.hid rfl
              have hl' : Hid ((l ++ [(5, j / 32)]) ++ coverL f (j + 32) k = coverL 65 i0 k) := by
                rw [← hl.out]
                conv => rhs; rw [coverL, if_pos (by omega), hL.out]
                exact Lib.hid (by simp)
              have hjm3 : (j : Int) + 32 ≤ k := by omega
              clear hdec hmod hL hl hlev hlv
              go_wp2_with fail
              refine wp_loop_rounds 1 ?_
              rw [rounds_succ]
              go_wp2_with (first | (at_builtin; refine wpList_app_block _ rfl (.tmp 45) (.tmp 51) rfl w.heap.size _ l rfl Hown.out _ 1 rfl (5, j / 32) (by simp [bcells]) (by omega) hbs ?_; intro v1 w1 hown1 hb1))
              go_roundw
              case rel => exact ⟨j + 32, f, l ++ [(5, j / 32)], by go_num, by omega, by simp; omega, by omega, hown1, hl', Hb.out.trans hb1⟩
              case measure => simp [intOf]; omega
          · have h1 : ((j : Int) % 64 == 0) = false := by rw [beq_eq_false_iff_ne]; exact hmod
            have hL : Hid (lev j k 8 0 = 5) := by
              rw [← hlv, hdec, if_neg (by omega)]; exact Lib.hid rfl
            have hl' : Hid ((l ++ [(5, j / 32)]) ++ coverL f (j + 32) k = coverL 65 i0 k) := by
              rw [← hl.out]
              conv => rhs; rw [coverL, if_pos (by omega), hL.out]
              exact Lib.hid (by simp)
            have hjm3 : (j : Int) + 32 ≤ k := by omega
            clear hdec hmod hL hl hlev hlv
            go_wp2_with fail
            refine wp_loop_rounds 1 ?_
            rw [rounds_succ]
            go_wp2_with (first | (at_builtin; refine wpList_app_block _ rfl (.tmp 45) (.tmp 51) rfl w.heap.size _ l rfl Hown.out _ 1 rfl (5, j / 32) (by simp [bcells]) (by omega) hbs ?_; intro v1 w1 hown1 hb1))
            go_roundw
            case rel => exact ⟨j + 32, f, l ++ [(5, j / 32)], by go_num, by omega, by simp; omega, by omega, hown1, hl', Hb.out.trans hb1⟩
            case measure => simp [intOf]; omega
        · have hlv : lev j k 2 6 = lev j k 8 0 := hlev.out
          have hjm2 : j + 64 ≤ k := hjm2
          have hdec : lev j k 2 6 = if j % 128 = 0 ∧ j + 128 ≤ k then lev j k 1 7 else 6 := rfl
          by_cases hmod : (j : Int) % 128 = 0
          · have h1 : ((j : Int) % 128 == 0) = true := by rw [beq_iff_eq]; exact hmod
            by_cases h2 : (j : Int) + 128 ≤ k
            · omega
            · have hL : Hid (lev j k 8 0 = 6) := by
                rw [← hlv, hdec, if_neg (by omega)]; exact Lib.hid rfl
              have hl' : Hid ((l ++ [(6, j / 64)]) ++ coverL f (j + 64) k = coverL 65 i0 k) := by
                rw [← hl.out]
                conv => rhs; rw [coverL, if_pos (by omega), hL.out]
                exact Lib.hid (by simp)
              have hjm3 : (j : Int) + 64 ≤ k := by omega
              clear hdec hmod hL hl hlev hlv
              go_wp2_with fail
              refine wp_loop_rounds 1 ?_
              rw [rounds_succ]
              go_wp2_with (first | (at_builtin; refine wpList_app_block _ rfl (.tmp 45) (.tmp 51) rfl w.heap.size _ l rfl Hown.out _ 1 rfl (6, j / 64) (by simp [bcells]) (by omega) hbs ?_; intro v1 w1 hown1 hb1))
              go_roundw
              case rel => exact ⟨j + 64, f, l ++ [(6, j / 64)], by go_num, by omega, by simp; omega, by omega, hown1, hl', Hb.out.trans hb1⟩
              case measure => simp [intOf]; omega
          · have h1 : ((j : Int) % 128 == 0) = false := by rw [beq_eq_false_iff_ne]; exact hmod
            have hL : Hid (lev j k 8 0 = 6) := by
              rw [← hlv, hdec, if_neg (by omega)]; exact Lib.hid rfl
            have hl' : Hid ((l ++ [(6, j / 64)]) ++ coverL f (j + 64) k = coverL 65 i0 k) := by
              rw [← hl.out]
              conv => rhs; rw [coverL, if_pos (by omega), hL.out]
              exact Lib.hid (by simp)
            have hjm3 : (j : Int) + 64 ≤ k := by omega
            clear hdec hmod hL hl hlev hlv
            go_wp2_with fail
            refine wp_loop_rounds 1 ?_
            rw [rounds_succ]
            go_wp2_with (first | (at_builtin; refine wpList_app_block _ rfl (.tmp 45) (.tmp 51) rfl w.heap.size _ l rfl Hown.out _ 1 rfl (6, j / 64) (by simp [bcells]) (by omega) hbs ?_; intro v1 w1 hown1 hb1))
            go_roundw
            case rel => exact ⟨j + 64, f, l ++ [(6, j / 64)], by go_num, by omega, by simp; omega, by omega, hown1, hl', Hb.out.trans hb1⟩
            case measure => simp [intOf]; omega
    · have hl' : l = coverL 65 i0 k := by
        rw [← hl.out]
        rcases f with _ | f
        · simp [coverL]
        · rw [coverL, if_neg (by omega)]; simp
      have Hl := Lib.hid hl'
      clear hl' hl
      go_wp2_with fail
      go_ret2
      exact ⟨u6, rfl, by rw [← Hl.out]; exact hown, hb⟩
end Go.Proofs.Ytfncpcmaplhojaa
