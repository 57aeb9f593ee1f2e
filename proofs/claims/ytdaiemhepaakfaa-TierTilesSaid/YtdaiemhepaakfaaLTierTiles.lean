/- TierTiles: the walk. Blocks lie one behind the other from the first to the last. -/
import Derived.Test.YtdaiemhepaakfaaTier
import Derived.Test.YtdaiemhepaakfaaWithin
import Derived.Test.YtdaiemhepaakfaaMinMax
namespace Go.Proofs.Ytdaiemhepaakfaa
open Go.ChangeShapes Go.WideShapes Go.RowKit
set_option linter.unusedVariables false
set_option linter.unusedSimpArgs false
set_option maxRecDepth 100000
set_option maxHeartbeats 4000000

theorem below_drewN {B : Nat} {a w : World} (h : Below B a w) (n : Nat) : Below B a (w.drewN n) := ⟨h.os, h.tape, h.output, h.size, h.block⟩
/-- where blocks that lie one behind the other from i end; none if one lies elsewhere -/
def tiles : Nat → List (Nat × Nat) → Option Nat
  | i, [] => some i
  | i, b :: r => if b.1 ≤ 6 ∧ b.2 * 2 ^ b.1 = i ∧ b.2 ≤ 64 then tiles (i + 2 ^ b.1) r else none
def bitsOf (n : Nat) : Nat := if n ≤ 1 then 0 else if n ≤ 2 then 1 else if n ≤ 4 then 2 else if n ≤ 8 then 3 else if n ≤ 16 then 4 else if n ≤ 32 then 5 else 6
theorem bitsOf_le (n : Nat) : bitsOf n ≤ 6 := by unfold bitsOf; (repeat' split) <;> omega
theorem tiles_cons (i k : Nat) (b : Nat × Nat) (r : List (Nat × Nat)) (h : tiles i (b :: r) = some k) : b.1 ≤ 6 ∧ b.2 * 2 ^ b.1 = i ∧ b.2 ≤ 64 ∧ tiles (i + 2 ^ b.1) r = some k := by
  simp only [tiles] at h
  split at h
  · rename_i hc; exact ⟨hc.1, hc.2.1, hc.2.2, h⟩
  · cases h
theorem tiles_all : ∀ k : Fin 65, ∀ i : Fin 65, i.val ≤ k.val → tiles i.val (coverL 65 i.val k.val) = some k.val ∧ (coverL 65 i.val k.val).length ≤ 2 * bitsOf (k.val - i.val) + 1 := by
  decide +kernel
theorem cover_16 : coverL 65 1 6 = [(0, 1), (1, 1), (1, 2)] := by decide +kernel
theorem bcell_at (l : List (Nat × Nat)) (k : Nat) (hk : k < l.length) : (l.flatMap bcells)[k * 2]? = some (.int .i64 l[k].1) ∧ (l.flatMap bcells)[k * 2 + 1]? = some (.int .i64 l[k].2) := by
  induction l generalizing k with
  | nil => simp at hk
  | cons b r ih =>
    rcases k with _ | k
    · exact ⟨rfl, rfl⟩
    · have := ih k (by simpa using hk)
      simp only [List.flatMap_cons, bcells, List.getElem_cons_succ]
      rw [show (k + 1) * 2 = k * 2 + 1 + 1 by omega]
      exact this
theorem eq_blocks (l : List (Nat × Nat)) (A A' : Option Addr) (c c' : Nat) (w : World) (hl : l.length ≤ 1000000) (h1 : Rd w w.heap.size 2 A l.length c (l.flatMap bcells)) (h2 : Rd w w.heap.size 2 A' l.length c' (l.flatMap bcells)) :
    Calls Try.prog 22 #[.slice A l.length c, .slice A' l.length c'] w fun e w' => e = .returned (.bool true) ∧ Below w.heap.size w w' := by
  have H1 := Lib.hid h1
  have H2 := Lib.hid h2
  clear h1 h2
  obtain ⟨n, hn⟩ : ∃ n, n = l.length := ⟨_, rfl⟩
  rw [← hn] at hl H1 H2 ⊢
  have Hn := Lib.hid hn
  clear hn
  go_enter Try.func22, Try.ntmps22
  go_wp2_with fail
  go_loopw [5, 13] (fun i0 i wr => ∃ k : Nat, k ≤ n ∧ i = .int .i64 k ∧ Below w.heap.size w wr) (fun _ i _ => n - (intOf i).toNat)
  case atStart => exact ⟨0, by omega, rfl, Below.refl _ _⟩
  case round =>
    obtain ⟨k, hk, rfl, hb⟩ := hrel
    by_cases hlt : k < n
    · obtain ⟨b, o, rfl, hbb, hcc⟩ := (H1.out.below hb).2.2.2 (by omega)
      obtain ⟨b', o', rfl, hbb', hcc'⟩ := (H2.out.below hb).2.2.2 (by omega)
      have hkl : k < l.length := by have := Hn.out; omega
      obtain ⟨e1, e2⟩ := bcell_at l k hkl
      have c1 := hcc _ _ e1
      have c2 := hcc _ _ e2
      have c3 := hcc' _ _ e1
      have c4 := hcc' _ _ e2
      generalize l[k].1 = x at *
      generalize l[k].2 = y at *
      clear hcc hcc' e1 e2
      have hk0 : (0 : Int) ≤ (k : Int) := by omega
      have hkn : (k : Int) < (n : Int) := by omega
      rw [← Nat.add_assoc] at c2 c4
      go_wp2_with fail
      go_quiet (fail)
      go_wp2_with fail
      go_roundw
      case rel => exact ⟨k + 1, by omega, by go_num, below_drewN hb _⟩
      case measure => simp [intOf]; omega
    · go_wp2_with fail
      go_ret
      exact ⟨rfl, hb⟩

theorem walk_TierTiles (i : Int) (wi' : (Lit.int .i64 i).wf = true) (k : Int) (wk : (Lit.int .i64 k).wf = true) (w : World) :
    Calls Try.prog 8 #[.int .i64 i, .int .i64 k] w fun e w' => e = .returned (.bool true) ∧ Below w.heap.size w w' := by
  clear wi' wk
  go_enter Try.func8, Try.ntmps8
  go_wp2_with fail
  refine (cover_good 1 6 _ (by decide) (by decide)).mono ?_
  rintro e w1 ⟨v1, rfl, hown1, hb1⟩
  rw [cover_16] at hown1
  obtain ⟨A1, c1, rfl, hrd1⟩ := Rd.own hown1
  go_wp2_with fail
  refine (eq_blocks [(0, 1), (1, 1), (1, 2)] A1 _ c1 3 _ (by decide) ((hrd1.alloc (Nat.le_refl _) _).more (by simp)) ((Rd.built w1 _ _ (by rfl) (by decide)).more (by simp))).mono ?_
  rintro e w2 ⟨rfl, hb2⟩
  have hbw2 : Below w.heap.size w w2 := (hb1.alloc hb1.size _).trans (hb2.mono (by have := hb1.size; simp; omega))
  clear hb1 hb2 hown1 hrd1
  go_wp2_with fail
  refine (within_any i 65 _ (by decide) (by decide)).mono ?_
  rintro e w3 ⟨rfl, rfl⟩
  have hi := wi_lt i 65 (by decide)
  generalize wi i 65 = I at *
  go_wp2_with fail
  refine (within_any k 65 _ (by decide) (by decide)).mono ?_
  rintro e w3 ⟨rfl, rfl⟩
  have hk := wi_lt k 65 (by decide)
  generalize wi k 65 = K at *
  obtain ⟨i0, hi0⟩ : ∃ i0, i0 = min I K := ⟨_, rfl⟩
  obtain ⟨k0, hk0⟩ : ∃ k0, k0 = max I K := ⟨_, rfl⟩
  have hmin : Hid (min (I : Int) K = (i0 : Int)) := by rw [hi0]; exact Lib.hid (by omega)
  have hmax : Hid (max (I : Int) K = (k0 : Int)) := by rw [hk0]; exact Lib.hid (by omega)
  have hk64 : (k0 : Int) ≤ 64 := by omega
  have hik : (i0 : Int) ≤ k0 := by omega
  clear hi0 hk0 hi hk
  go_wp2_with (first | (refine wpList_min2 rfl (.tmp 32) (.tmp 33) _ rfl _ _ _ rfl rfl hmin.out ?_) | (refine wpList_max2 rfl (.tmp 35) (.tmp 36) _ rfl _ _ _ rfl rfl hmax.out ?_))
  refine (cover_good i0 k0 _ hk64 hik).mono ?_
  rintro e w3 ⟨v, rfl, hown, hb3⟩
  have hbw3 := hbw2.trans (hb3.mono hbw2.size)
  obtain ⟨ht, hn⟩ := tiles_all ⟨k0, by omega⟩ ⟨i0, by omega⟩ (by simp only; omega)
  simp only at ht hn
  have Hn := Lib.hid hn
  clear hb3 hbw2 hn
  generalize coverL 65 i0 k0 = l at *
  obtain ⟨A, c, rfl, hrd⟩ := Rd.own hown
  obtain ⟨n, hnl⟩ : ∃ n, n = l.length := ⟨_, rfl⟩
  rw [← hnl] at hrd ⊢
  have Hnl := Lib.hid hnl
  have hn64 : n ≤ 100 := by have := Hn.out; have := Hnl.out; have := bitsOf_le (k0 - i0); omega
  clear hnl hown
  have Hrd := Lib.hid hrd
  have Ht := Lib.hid ht
  clear hrd ht
  go_wp2_with fail
  go_loopw [9, 11, 49] (fun at_ pb i wr => ∃ p q : Nat, p ≤ n ∧ i = .int .i64 p ∧ at_ = .int .i64 q ∧ Hid (tiles q (l.drop p) = some k0) ∧ Below w3.heap.size w3 wr) (fun _ _ i _ => n - (intOf i).toNat)
  case atStart => exact ⟨0, i0, by omega, rfl, rfl, Lib.hid Ht.out, Below.refl _ _⟩
  case round =>
    obtain ⟨p, q, hp, rfl, rfl, htl, hb⟩ := hrel
    by_cases hlt : p < n
    · have hpl : p < l.length := by have := Hnl.out; omega
      have htl2 := htl.out
      rw [List.drop_eq_getElem_cons hpl] at htl2
      obtain ⟨hx6, hq, hy64, hnext⟩ := tiles_cons _ _ _ _ htl2
      obtain ⟨b, o, rfl, hbb, hcc⟩ := (Hrd.out.below hb).2.2.2 (by omega)
      obtain ⟨e1, e2⟩ := bcell_at l p hpl
      have c1 := hcc _ _ e1
      have c2 := hcc _ _ e2
      have Hnext := Lib.hid hnext
      clear hnext htl2 htl hcc e1 e2
      generalize l[p].1 = x at *
      generalize l[p].2 = y at *
      have hk0 : (0 : Int) ≤ (p : Int) := by omega
      have hkn : (p : Int) < (n : Int) := by omega
      rw [← Nat.add_assoc] at c2
      have hy64' : (y : Int) ≤ 64 := by omega
      have hcs : x = 0 ∨ x = 1 ∨ x = 2 ∨ x = 3 ∨ x = 4 ∨ x = 5 ∨ x = 6 := by omega
      clear hy64 hx6
      rcases hcs with rfl | rfl | rfl | rfl | rfl | rfl | rfl
      all_goals subst hq
      · go_wp2_with fail
        go_roundw
        case rel => exact ⟨p + 1, y * 1 + 1, by omega, by go_num, by go_num, by have h := Hnext.out; simp only [Nat.reducePow] at h; exact Lib.hid h, hb.alloc hb.size _⟩
        case measure => simp [intOf]; omega
      · go_wp2_with fail
        go_roundw
        case rel => exact ⟨p + 1, y * 2 + 2, by omega, by go_num, by go_num, by have h := Hnext.out; simp only [Nat.reducePow] at h; exact Lib.hid h, hb.alloc hb.size _⟩
        case measure => simp [intOf]; omega
      · go_wp2_with fail
        go_roundw
        case rel => exact ⟨p + 1, y * 4 + 4, by omega, by go_num, by go_num, by have h := Hnext.out; simp only [Nat.reducePow] at h; exact Lib.hid h, hb.alloc hb.size _⟩
        case measure => simp [intOf]; omega
      · go_wp2_with fail
        go_roundw
        case rel => exact ⟨p + 1, y * 8 + 8, by omega, by go_num, by go_num, by have h := Hnext.out; simp only [Nat.reducePow] at h; exact Lib.hid h, hb.alloc hb.size _⟩
        case measure => simp [intOf]; omega
      · go_wp2_with fail
        go_roundw
        case rel => exact ⟨p + 1, y * 16 + 16, by omega, by go_num, by go_num, by have h := Hnext.out; simp only [Nat.reducePow] at h; exact Lib.hid h, hb.alloc hb.size _⟩
        case measure => simp [intOf]; omega
      · go_wp2_with fail
        go_roundw
        case rel => exact ⟨p + 1, y * 32 + 32, by omega, by go_num, by go_num, by have h := Hnext.out; simp only [Nat.reducePow] at h; exact Lib.hid h, hb.alloc hb.size _⟩
        case measure => simp [intOf]; omega
      · go_wp2_with fail
        go_roundw
        case rel => exact ⟨p + 1, y * 64 + 64, by omega, by go_num, by go_num, by have h := Hnext.out; simp only [Nat.reducePow] at h; exact Lib.hid h, hb.alloc hb.size _⟩
        case measure => simp [intOf]; omega
    · have hq : q = k0 := by
        have h := htl.out
        rw [List.drop_eq_nil_of_le (by have := Hnl.out; omega)] at h
        simpa [tiles] using h
      subst hq
      have hbw := hbw3.trans (hb.mono hbw3.size)
      clear htl
      go_wp2_with fail
      obtain ⟨wo, rfl⟩ : ∃ wo : World, wo = wr := ⟨_, rfl⟩
      have Hik := Lib.hid hik
      obtain ⟨D, hD⟩ : ∃ D, D = q - i0 := ⟨_, rfl⟩
      have hDi : Hid ((q : Int) - (i0 : Int) = (D : Int)) := Lib.hid (by omega)
      rw [← hD] at Hn
      have hbd := bitsOf_le D
      have hD64 : (D : Int) ≤ 64 := by omega
      go_loop [12] (fun b => ∃ m : Nat, b = .int .i64 m ∧ m ≤ bitsOf D) (fun b => 7 - (intOf b).toNat)
      case atStart => exact ⟨0, rfl, by omega⟩
      case round =>
        obtain ⟨m, rfl, hm⟩ := hrel
        have hm6 : m ≤ 6 := by omega
        have hDi2 := hDi.out
        have hcs : m = 0 ∨ m = 1 ∨ m = 2 ∨ m = 3 ∨ m = 4 ∨ m = 5 ∨ m = 6 := by omega
        have hnb : Hid (l.length ≤ 2 * bitsOf D + 1) := Hn
        rcases hcs with rfl | rfl | rfl | rfl | rfl | rfl | rfl
        · by_cases hlt2 : (1 : Int) < D
          · go_wp2_with fail
            go_round
            case rel => exact ⟨1, rfl, by unfold bitsOf; (repeat' split) <;> omega⟩
            case measure => simp [intOf]
          · have hbd : bitsOf D = 0 := by
              have : bitsOf D ≤ 0 := by unfold bitsOf; (repeat' split) <;> omega
              omega
            have hn2 : (n : Int) ≤ 1 := by have := hnb.out; have := Hnl.out; rw [hbd] at *; omega
            clear hm hbd
            go_wp2_with fail
            go_ret
            exact ⟨rfl, hbw⟩
        · by_cases hlt2 : (2 : Int) < D
          · go_wp2_with fail
            go_round
            case rel => exact ⟨2, rfl, by unfold bitsOf; (repeat' split) <;> omega⟩
            case measure => simp [intOf]
          · have hbd : bitsOf D = 1 := by
              have : bitsOf D ≤ 1 := by unfold bitsOf; (repeat' split) <;> omega
              omega
            have hn2 : (n : Int) ≤ 3 := by have := hnb.out; have := Hnl.out; rw [hbd] at *; omega
            clear hm hbd
            go_wp2_with fail
            go_ret
            exact ⟨rfl, hbw⟩
        · by_cases hlt2 : (4 : Int) < D
          · go_wp2_with fail
            go_round
            case rel => exact ⟨3, rfl, by unfold bitsOf; (repeat' split) <;> omega⟩
            case measure => simp [intOf]
          · have hbd : bitsOf D = 2 := by
              have : bitsOf D ≤ 2 := by unfold bitsOf; (repeat' split) <;> omega
              omega
            have hn2 : (n : Int) ≤ 5 := by have := hnb.out; have := Hnl.out; rw [hbd] at *; omega
            clear hm hbd
            go_wp2_with fail
            go_ret
            exact ⟨rfl, hbw⟩
        · by_cases hlt2 : (8 : Int) < D
          · go_wp2_with fail
            go_round
            case rel => exact ⟨4, rfl, by unfold bitsOf; (repeat' split) <;> omega⟩
            case measure => simp [intOf]
          · have hbd : bitsOf D = 3 := by
              have : bitsOf D ≤ 3 := by unfold bitsOf; (repeat' split) <;> omega
              omega
            have hn2 : (n : Int) ≤ 7 := by have := hnb.out; have := Hnl.out; rw [hbd] at *; omega
            clear hm hbd
            go_wp2_with fail
            go_ret
            exact ⟨rfl, hbw⟩
        · by_cases hlt2 : (16 : Int) < D
          · go_wp2_with fail
            go_round
            case rel => exact ⟨5, rfl, by unfold bitsOf; (repeat' split) <;> omega⟩
            case measure => simp [intOf]
          · have hbd : bitsOf D = 4 := by
              have : bitsOf D ≤ 4 := by unfold bitsOf; (repeat' split) <;> omega
              omega
            have hn2 : (n : Int) ≤ 9 := by have := hnb.out; have := Hnl.out; rw [hbd] at *; omega
            clear hm hbd
            go_wp2_with fail
            go_ret
            exact ⟨rfl, hbw⟩
        · by_cases hlt2 : (32 : Int) < D
          · go_wp2_with fail
            go_round
            case rel => exact ⟨6, rfl, by unfold bitsOf; (repeat' split) <;> omega⟩
            case measure => simp [intOf]
          · have hbd : bitsOf D = 5 := by
              have : bitsOf D ≤ 5 := by unfold bitsOf; (repeat' split) <;> omega
              omega
            have hn2 : (n : Int) ≤ 11 := by have := hnb.out; have := Hnl.out; rw [hbd] at *; omega
            clear hm hbd
            go_wp2_with fail
            go_ret
            exact ⟨rfl, hbw⟩
        · by_cases hlt2 : (64 : Int) < D
          · exfalso; omega
          · have hbd : bitsOf D = 6 := by
              have : bitsOf D ≤ 6 := by unfold bitsOf; (repeat' split) <;> omega
              omega
            have hn2 : (n : Int) ≤ 13 := by have := hnb.out; have := Hnl.out; rw [hbd] at *; omega
            clear hm hbd
            go_wp2_with fail
            go_ret
            exact ⟨rfl, hbw⟩
end Go.Proofs.Ytdaiemhepaakfaa
