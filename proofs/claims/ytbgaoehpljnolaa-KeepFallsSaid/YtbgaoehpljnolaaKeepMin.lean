/- slices.Min, keep.Floor, and plain laws of what is kept, in order. -/
import Derived.Test.YtbgaoehpljnolaaKeepLaw
import Derived.Test.YtbgaoehpljnolaaMinMax
namespace Go.Proofs.Ytbgaoehpljnolaa
open Go.ChangeShapes Go.WideShapes Go.RowKit
set_option linter.unusedVariables false
set_option linter.unusedSimpArgs false
set_option maxRecDepth 100000
set_option maxHeartbeats 4000000

theorem min_any (l : List Int) (x : Int) (A : Option Addr) (n c B : Nat) (w : World) (h : RdI w B A n c l) (hn : 0 < n) (hx : ∀ h0 : 0 < l.length, l[0] = x) (hmin : ∀ y ∈ l, x ≤ y) :
    Calls Try.prog 21 #[.slice A n c] w fun e w' => e = .returned (.int .i64 x) ∧ w = w' := by
  have hle := h.le
  have H := Lib.hid h
  have HX := Lib.hid hx
  have HM := Lib.hid hmin
  obtain ⟨b, o, rfl, hb, hc⟩ := h.at_ 0 hn
  rw [hx (by have := h.1; omega)] at hc
  rw [Nat.add_zero] at hc
  have hn1 : (1 : Int) ≤ (n : Int) := by omega
  have hn0 : (0 : Int) < (n : Int) := by omega
  have hn2 : decide (n < 1) = false := by simp; omega
  clear h hx hmin
  go_enter Try.func21, Try.ntmps21
  go_wp2_with fail
  go_loop [3, 4] (fun m i => ∃ k : Nat, 1 ≤ k ∧ k ≤ n ∧ i = .int .i64 k ∧ m = .int .i64 x) (fun _ i => n - (intOf i).toNat)
  case atStart => exact ⟨1, by omega, by omega, rfl, rfl⟩
  case round =>
    obtain ⟨k, hk1, hk, rfl, rfl⟩ := hrel
    by_cases hlt : k < n
    · obtain ⟨b', o', e', hb', hc'⟩ := H.out.at_ k hlt
      obtain ⟨rfl, rfl⟩ : b' = b ∧ o' = o := by injection e' with e'; injection e' with e1 e2; exact ⟨e1.symm, e2.symm⟩
      have hkl : k < l.length := by have := H.out.1; omega
      have hmn : Hid (min x l[k] = x) := Lib.hid (by have := HM.out l[k] (List.getElem_mem hkl); omega)
      generalize l[k] = y at *
      have hk0 : (0 : Int) ≤ (k : Int) := by omega
      have hkn : (k : Int) < (n : Int) := by omega
      clear e'
      go_wp2_with (first | (refine wpList_min2 rfl (.tmp 18) (.tmp 22) _ rfl _ _ _ rfl rfl hmn.out ?_))
      go_round
      case rel => exact ⟨k + 1, by omega, by omega, by go_num, rfl⟩
      case measure => simp [intOf]; omega
    · go_wp2_with fail
      go_ret
      exact ⟨rfl, rfl⟩
theorem floor_err (last every : Int) (p : List Int) (head : Int) (A : Option Addr) (n c B : Nat) (w : World) (h : RdI w B A n c p) (hB : B ≤ w.heap.size) (hk : kchk last every p ≠ 0) :
    Calls Try.prog 20 #[pol last every A n c, .int .i64 head] w fun e w' => e = .returned (.tuple #[.int .i64 0, .int .i64 (kchk last every p)]) ∧ Below w.heap.size w w' := by
  have H := Lib.hid (h.alloc hB (.cells #[.int .i64 last, .int .i64 every, .slice A n c] 31))
  have hne : ((kchk last every p) != 0) = true := by simpa using hk
  have Hk := Lib.hid hk
  clear h hk
  unfold pol
  go_enter Try.func20, Try.ntmps20
  go_wp2_with fail
  refine (keep_err last every p head A n c B _ H.out (by simp; omega) Hk.out).mono ?_
  rintro e w1 ⟨rfl, hb1⟩
  have hb := ((Below.refl w.heap.size w).alloc (Nat.le_refl _) (.cells #[.int .i64 last, .int .i64 every, .slice A n c] 31)).trans (hb1.mono (by simp))
  clear hb1
  go_wp2_with fail
  go_ret2
  exact ⟨rfl, hb⟩
/-- the least that is kept -/
def kF (last every : Int) (p : List Int) (head : Nat) : Int := (kL last every p head (head + 1)).headD 0
theorem kL_pos (last every : Int) (p : List Int) (head : Nat) (h : 1 ≤ last) : 0 < (kL last every p head (head + 1)).length := by
  have : (head : Int) ∈ kL last every p head (head + 1) := (kL_mem _ _ _ _ _ _).2 ⟨by omega, by omega, kB_last (by omega)⟩
  exact List.length_pos_of_mem this
theorem kF_get (last every : Int) (p : List Int) (head : Nat) (h0 : 0 < (kL last every p head (head + 1)).length) : (kL last every p head (head + 1))[0] = kF last every p head := by
  unfold kF
  rw [List.headD_eq_head?_getD, List.head?_eq_getElem?, List.getElem?_eq_getElem h0]
  rfl
theorem floor_good (last every : Int) (p : List Int) (head : Nat) (A : Option Addr) (n c B : Nat) (w : World) (h : RdI w B A n c p) (hB : B ≤ w.heap.size) (hk : kchk last every p = 0) (hh : (head : Int) ≤ 640) :
    Calls Try.prog 20 #[pol last every A n c, .int .i64 head] w fun e w' => e = .returned (.tuple #[.int .i64 (kF last every p head), .int .i64 0]) ∧ Below w.heap.size w w' := by
  have H := Lib.hid (h.alloc hB (.cells #[.int .i64 last, .int .i64 every, .slice A n c] 31))
  have Hpos := Lib.hid (kL_pos last every p head (kchk_zero _ _ _ hk).1)
  have Hk := Lib.hid hk
  clear h hk
  unfold pol
  go_enter Try.func20, Try.ntmps20
  go_wp2_with fail
  refine (keep_good last every p head A n c B _ H.out (by simp; omega) Hk.out hh).mono ?_
  rintro e w1 ⟨⟨v, rfl, hown⟩, hb1⟩
  have hb := ((Below.refl w.heap.size w).alloc (Nat.le_refl _) (.cells #[.int .i64 last, .int .i64 every, .slice A n c] 31)).trans (hb1.mono (by simp))
  clear hb1
  obtain ⟨A', c', rfl, hrd⟩ := hown.rd
  obtain ⟨b, o, rfl, hbb, hc⟩ := hrd.at_ 0 Hpos.out
  rw [kF_get, Nat.add_zero] at hc
  have hn0 : (0 : Int) < ((kL last every p head (head + 1)).length : Int) := by have := Hpos.out; omega
  clear hown hrd
  go_wp2_with fail
  go_ret2
  exact ⟨rfl, hb⟩

/-- strictly rising -/
def Up : List Int → Prop
  | x :: y :: r => x < y ∧ Up (y :: r)
  | _ => True
theorem up_snoc (l : List Int) (x : Int) (h : Up l) (hx : ∀ y ∈ l, y < x) : Up (l ++ [x]) := by
  induction l with
  | nil => trivial
  | cons a l ih =>
    rcases l with _ | ⟨b, l⟩
    · exact ⟨hx a (by simp), trivial⟩
    · exact ⟨h.1, ih h.2 fun y hy => hx y (by simp only [List.mem_cons] at hy ⊢; exact .inr hy)⟩
theorem up_kL (last every : Int) (p : List Int) (head : Int) (k : Nat) : Up (kL last every p head k) := by
  induction k with
  | zero => trivial
  | succ k ih =>
    rw [kL_succ]
    split
    · exact up_snoc _ _ ih fun y hy => by have := (kL_mem _ _ _ _ _ _).1 hy; omega
    · simpa using ih
theorem up_at : ∀ (l : List Int) (j : Nat), Up l → ∀ (h : j + 1 < l.length), l[j] < l[j + 1]
  | x :: y :: r, 0, h, _ => h.1
  | x :: y :: r, j + 1, h, hj => up_at (y :: r) j h.2 (by simpa using hj)
  | [], j, _, hj => absurd hj (by simp)
  | [x], j, _, hj => absurd hj (by simp)
theorem up_head : ∀ (l : List Int) (x : Int), Up (x :: l) → ∀ y ∈ x :: l, x ≤ y
  | [], x, _, y, hy => by simp at hy; omega
  | z :: l, x, h, y, hy => by
    rcases List.mem_cons.1 hy with rfl | hy
    · exact Int.le_refl _
    · have := up_head l z h.2 y hy
      have := h.1
      omega
theorem kF_le (last every : Int) (p : List Int) (head : Nat) (y : Int) (hy : y ∈ kL last every p head (head + 1)) : kF last every p head ≤ y := by
  have hu := up_kL last every p head (head + 1)
  unfold kF
  rcases hl : kL last every p (head : Int) (head + 1) with _ | ⟨x, l⟩
  · rw [hl] at hy; simp at hy
  · rw [hl] at hy hu
    exact up_head l x hu y hy
theorem kF_mem (last every : Int) (p : List Int) (head : Nat) (h : 1 ≤ last) : kF last every p head ∈ kL last every p head (head + 1) := by
  have h0 := kL_pos last every p head h
  rw [← kF_get _ _ _ _ h0]
  exact List.getElem_mem h0
theorem kB_fall {last every : Int} {p : List Int} {head r : Int} (h : kB last every p (head + 1) r = true) : kB last every p head r = true := by
  unfold kB at h ⊢
  simp only [Bool.or_eq_true, Bool.and_eq_true, decide_eq_true_eq] at h ⊢
  rcases h with (h | h) | h
  · exact .inl (.inl (by omega))
  · exact .inl (.inr h)
  · exact .inr h
theorem kF_mono (last every : Int) (p : List Int) (head : Nat) (h : 1 ≤ last) : kF last every p head ≤ kF last every p (head + 1) := by
  have h1 := (kL_mem _ _ _ _ _ _).1 (kF_mem last every p (head + 1) h)
  rcases (show (head : Int) < kF last every p (head + 1) ∨ kF last every p (head + 1) ≤ (head : Int) by omega) with hlt | hge
  · have h2 := (kL_mem _ _ _ _ _ _).1 (kF_mem last every p head h)
    omega
  · refine kF_le _ _ _ _ _ ((kL_mem _ _ _ _ _ _).2 ⟨h1.1, by omega, kB_fall (head := (head : Int)) ?_⟩)
    have e : ((head + 1 : Nat) : Int) = (head : Int) + 1 := by omega
    rw [e] at h1
    exact h1.2.2
theorem kL_last (last every : Int) (p : List Int) (head : Nat) (h : 1 ≤ last) : kL last every p head (head + 1) = kL last every p head head ++ [(head : Int)] := by
  rw [kL_succ, if_pos (kB_last (by omega))]
end Go.Proofs.Ytbgaoehpljnolaa
