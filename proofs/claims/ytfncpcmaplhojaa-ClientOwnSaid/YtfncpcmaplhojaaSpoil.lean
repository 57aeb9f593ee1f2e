/- scrivkeep's helpers over room: spoil. -/
import Derived.Test.YtfncpcmaplhojaaMaker2
namespace Go.Proofs.Ytfncpcmaplhojaa
open Go.ChangeShapes Go.WideShapes Go.RowKit
set_option linter.unusedVariables false
set_option linter.unusedSimpArgs false
set_option maxRecDepth 100000
set_option maxHeartbeats 4000000

theorem spoil_any (p : Pt) (g n cap : Nat) (cur : Array Value) (w : World) (hb : Blk w g 45 cur) (hs : cur.size = cap * 3) (hn : n ≤ cap) (hc : cap ≤ maxLen) :
    Calls Try.prog 29 #[.slice (some ⟨g, 0, none⟩) n cap, pval p] w fun e w' => e = .returned (.tuple #[]) ∧ Only w w' (fun k => k = g) := by
  obtain ⟨kd, m, t⟩ := p
  have hcap : (cap : Int) ≤ 9223372036854775807 := by unfold maxLen at hc; omega
  have hnc : (n : Int) ≤ (cap : Int) := by omega
  have h0 : (0 : Int) ≤ (cap : Int) := by omega
  have Hs := Lib.hid hs
  have Hb := Lib.hid hb
  have hlt := hb.lt
  clear hs hb
  unfold pval
  go_enter Try.func29, Try.ntmps29
  go_wp2_with fail
  have Hx := Lib.hid (Blk.new w 45 #[.int .i64 kd, .int .i64 m, .string t])
  have Hg := Lib.hid (Hb.out.alloc (.cells #[.int .i64 kd, .int .i64 m, .string t] 45))
  have Ho := Lib.hid (Only.alloc (S := fun k => k = g) w (.cells #[.int .i64 kd, .int .i64 m, .string t] 45))
  generalize w.alloc (.cells #[.int .i64 kd, .int .i64 m, .string t] 45) = W at *
  obtain ⟨x, hx⟩ : ∃ x, w.heap.size = x := ⟨_, rfl⟩
  rw [hx] at Hx hlt ⊢
  go_loopw [4, 11] (fun uv iv wr => ∃ (k : Nat) (cs : Array Value), k ≤ cap ∧ iv = .int .i64 k ∧ Hid (cs.size = cap * 3) ∧ Hid (Blk wr g 45 cs) ∧ Hid (Blk wr x 45 #[.int .i64 kd, .int .i64 m, .string t]) ∧ Hid (Only w wr (fun k => k = g))) (fun _ iv _ => cap - (intOf iv).toNat)
  case atStart => exact ⟨0, cur, by omega, rfl, Hs, Hg, Hx, Ho⟩
  case round =>
    obtain ⟨k, cs, hk, rfl, hcs, hgb, hxb, ho⟩ := hrel
    by_cases hlt2 : k < cap
    · have hkc : (k : Int) < (cap : Int) := by omega
      have hk0 : (0 : Int) ≤ (k : Int) := by omega
      have hsz := hcs.out
      have a0 := hgb.out.cell (k * 3)
      have a1 := hgb.out.cell (k * 3 + 1)
      have a2 := hgb.out.cell (k * 3 + 2)
      obtain ⟨v0, e0⟩ : ∃ v, cs[k * 3]? = some v := ⟨cs[k * 3]'(by omega), Array.getElem?_eq_getElem (by omega)⟩
      obtain ⟨v1, e1⟩ : ∃ v, cs[k * 3 + 1]? = some v := ⟨cs[k * 3 + 1]'(by omega), Array.getElem?_eq_getElem (by omega)⟩
      obtain ⟨v2, e2⟩ : ∃ v, cs[k * 3 + 2]? = some v := ⟨cs[k * 3 + 2]'(by omega), Array.getElem?_eq_getElem (by omega)⟩
      rw [e0] at a0
      rw [e1] at a1
      rw [e2] at a2
      have f0 := hgb.out.frozen (k * 3)
      have f1 := hgb.out.frozen (k * 3 + 1)
      have f2 := hgb.out.frozen (k * 3 + 2)
      have x0 := hxb.out.cell 0
      have x1 := hxb.out.cell 1
      have x2 := hxb.out.cell 2
      have hxl := hxb.out.lt
      have hgl := hgb.out.lt
      clear e0 e1 e2 hsz
      have hxg : x ≠ g := by omega
      go_wp2_with fail
      go_roundw
      case rel =>
        refine ⟨k + 1, ((cs.setIfInBounds (k * 3) (.int .i64 kd)).setIfInBounds (k * 3 + 1) (.int .i64 m)).setIfInBounds (k * 3 + 2) (.string t), by omega, by go_num, Lib.hid (by simpa using hcs.out), Lib.hid (((hgb.out.set_ _ _).set_ _ _).set_ _ _), Lib.hid (((hxb.out.far hxg _).far hxg _).far hxg _), Lib.hid (((ho.out.trans (Only.setSelf _ _ _ _)).trans (Only.setSelf _ _ _ _)).trans (Only.setSelf _ _ _ _))⟩
      case measure => simp [intOf]; omega
    · obtain rfl : k = cap := by omega
      go_wp2_with fail
      go_end0
      exact ⟨rfl, ho.out⟩
end Go.Proofs.Ytfncpcmaplhojaa
