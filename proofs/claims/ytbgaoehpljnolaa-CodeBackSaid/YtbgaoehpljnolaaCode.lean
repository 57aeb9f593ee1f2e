/- Contracts of code.put, code.Write. -/
import Derived.Test.YtbgaoehpljnolaaPart
import Derived.Test.YtbgaoehpljnolaaNum
import Derived.Test.YtbgaoehpljnolaaCodeLaw
namespace Go.Proofs.Ytbgaoehpljnolaa
open Go.ChangeShapes Go.WideShapes Go.RowKit
set_option linter.unusedVariables false
set_option linter.unusedSimpArgs false
set_option maxRecDepth 100000
set_option maxHeartbeats 4000000

theorem cput_any (n : Nat) (m : Int) (hm : m = (n : Int)) (z : ByteArray) (hz : (⟨(vi n).toArray⟩ : ByteArray) = z) (h : (n : Int) ≤ 2147483647) (w : World) :
    Calls Try.prog 64 #[.int .i64 m] w fun e w' => e = .returned (.string z) ∧ Below w.heap.size w w' := by
  subst hm
  have hc := put_good n w h
  rw [hz] at hc
  have Hc := Lib.hid hc
  clear hc hz
  go_enter Try.func64, Try.ntmps64
  go_wp2_with fail
  refine Hc.out.mono ?_
  rintro e w1 ⟨rfl, hb⟩
  go_wp2_with fail
  go_ret
  exact ⟨rfl, hb⟩
theorem vi_size (n : Nat) (z : ByteArray) (hz : (⟨(vi n).toArray⟩ : ByteArray) = z) (h : n ≤ 2147483647) : z.size ≤ 5 ∧ z.data.toList = vi n := by
  subst hz
  have := vi_len 5 n (by omega) (by omega)
  exact ⟨by rw [bs_size]; exact this, by simp⟩
theorem cwrite_err (l : List Pt) (A : Option Addr) (n c B : Nat) (w : World) (h : RdP w B A n c l) (hB : B ≤ w.heap.size) (hk : chk l ≠ 0) :
    Calls Try.prog 42 #[.slice A n c] w fun e w' => e = .returned (.tuple #[.string ⟨#[]⟩, .int .i64 (chk l)]) ∧ Below w.heap.size w w' := by
  have H := Lib.hid h
  have hne : ((chk l) != 0) = true := by simpa using hk
  clear h hk
  go_enter Try.func42, Try.ntmps42
  go_wp2_with fail
  refine (chk_any l A n c B _ H.out hB).mono ?_
  rintro e w1 ⟨rfl, hb⟩
  go_wp2_with fail
  go_ret2
  exact ⟨rfl, hb⟩
theorem cwrite_good (l : List Pt) (A : Option Addr) (n c B : Nat) (w : World) (S : ByteArray) (h : RdP w B A n c l) (hB : B ≤ w.heap.size) (hk : chk l = 0) (hS : S.data.toList = wrL l) :
    Calls Try.prog 42 #[.slice A n c] w fun e w' => e = .returned (.tuple #[.string S, .int .i64 0]) ∧ Below w.heap.size w w' := by
  have H := Lib.hid h
  have Hk := Lib.hid hk
  have HF := Lib.hid (chk_parts hk).2.2.2.2.2
  have hn16 : (n : Int) ≤ 1600 := by have := (chk_parts hk).1; have := h.1; omega
  have HS := Lib.hid hS
  obtain ⟨z0, hz0⟩ : ∃ z, (⟨(vi n).toArray⟩ : ByteArray) = z := ⟨_, rfl⟩
  have hv0 := vi_size n z0 hz0 (by omega)
  have Hz0 := Lib.hid hz0
  have hz5 := hv0.1
  have Hv0 := Lib.hid hv0.2
  clear h hk hS hz0 hv0
  go_enter Try.func42, Try.ntmps42
  go_wp2_with fail
  refine (chk_any l A n c B _ H.out hB).mono ?_
  rintro e w1 ⟨rfl, hb1⟩
  rw [Hk.out]
  go_wp2_with fail
  refine (cput_any n _ rfl z0 Hz0.out (by omega) _).mono ?_
  rintro e w2 ⟨rfl, hb2⟩
  have hw2 := hb1.trans (hb2.mono hb1.size)
  clear hb1 hb2
  go_wp2_with fail
  go_loopw [5, 7, 18] (fun ov pv i wr => ∃ (k : Nat) (acc : ByteArray), k ≤ n ∧ i = .int .i64 k ∧ ov = .string acc ∧ Hid (acc.data.toList = vi n ++ (l.take k).flatMap wrP) ∧ (acc.size : Int) ≤ 5 + 505 * k ∧ Below w.heap.size w wr) (fun _ _ i _ => n - (intOf i).toNat)
  case atStart => exact ⟨0, z0, by omega, rfl, rfl, Lib.hid (by rw [Hv0.out]; simp), by omega, hw2⟩
  case round =>
    obtain ⟨k, acc, hk, rfl, rfl, hacc, hsz, hbw⟩ := hrel
    by_cases hlt : k < n
    · have hkl : k < l.length := by have := H.out.1; omega
      obtain ⟨g, o, rfl, hg, c0, c1, c2⟩ := (H.out.below (hbw.mono hB)).at_ k hlt
      have hbd := fit_bounds _ (HF.out l[k] (List.getElem_mem hkl))
      have hts : Hid ((l.take (k + 1)).flatMap wrP = (l.take k).flatMap wrP ++ wrP l[k]) := Lib.hid (by rw [List.take_succ_eq_append_getElem hkl, List.flatMap_append]; simp)
      obtain ⟨p, hp⟩ : ∃ p, p = l[k] := ⟨_, rfl⟩
      rw [← hp] at hbd hts c0 c1 c2
      clear hp
      obtain ⟨kd, m, t⟩ := p
      simp only at hbd c0 c1 c2
      have hk0 : (0 : Int) ≤ (k : Int) := by omega
      have hkn : (k : Int) < (n : Int) := by omega
      have hgl : g < wr.heap.size := by have := hbw.size; omega
      have hw1 := hbw.alloc hbw.size (.cells #[.int .i64 kd, .int .i64 m, .string t] 59)
      rcases hbd with ⟨hkd, h1, h2, rfl⟩ | ⟨rfl, rfl, h1, h2⟩
      · obtain ⟨q, rfl⟩ := Int.eq_ofNat_of_zero_le (show 0 ≤ m by omega)
        have hkd0 : kd ≠ 2 := by omega
        obtain ⟨y, hy⟩ : ∃ z, (⟨(vi (4 * q + kd.toNat)).toArray⟩ : ByteArray) = z := ⟨_, rfl⟩
        have hvy := vi_size _ y hy (by omega)
        have hy5 := hvy.1
        have hwp : wrP ((kd, (q : Int), emp) : Pt) = vi (4 * q + kd.toNat) := by unfold wrP; rw [if_neg hkd0, Int.toNat_natCast]
        have Hy := Lib.hid hy
        have Hvy := Lib.hid hvy.2
        have Hwp := Lib.hid hwp
        clear hy hvy hwp hkd0
        rcases hkd with rfl | rfl
        all_goals
          go_wp2_with fail
          refine (cput_any _ _ (by omega) y Hy.out (by omega) _).mono ?_
          rintro e w3 ⟨rfl, hb3⟩
          have hw3 := hw1.trans (hb3.mono hw1.size)
          clear hb3
          go_wp2_with fail
          go_roundw
          case rel => exact ⟨k + 1, acc ++ y, by omega, by go_num, rfl, Lib.hid (by rw [bs_append, hacc.out, Hvy.out, hts.out, Hwp.out, List.append_assoc]), by rw [ByteArray.size_append]; omega, hw3⟩
          case measure => simp [intOf]; omega
      · obtain ⟨y, hy⟩ : ∃ z, (⟨(vi (4 * t.size + 2)).toArray⟩ : ByteArray) = z := ⟨_, rfl⟩
        have hvy := vi_size _ y hy (by omega)
        have hy5 := hvy.1
        have hwp : wrP ((2, 0, t) : Pt) = vi (4 * t.size + 2) ++ t.data.toList := by unfold wrP; rw [if_pos rfl]
        have Hy := Lib.hid hy
        have Hvy := Lib.hid hvy.2
        have Hwp := Lib.hid hwp
        clear hy hvy hwp
        have hpb := Blk.new wr 59 #[.int .i64 2, .int .i64 0, .string t]
        have hp2 : (wr.alloc (.cells #[.int .i64 2, .int .i64 0, .string t] 59)).cell? ⟨wr.heap.size, 2, none⟩ = some (.string t) := hpb.cell 2
        have hpl : wr.heap.size < (wr.alloc (.cells #[.int .i64 2, .int .i64 0, .string t] 59)).heap.size := hpb.lt
        go_wp2_with fail
        generalize wr.alloc (.cells #[.int .i64 2, .int .i64 0, .string t] 59) = W1 at *
        have hput : ∀ w', (Below W1.heap.size W1 w' ∧ w'.cell? ⟨wr.heap.size, 2, none⟩ = some (.string t)) →
            Calls Try.prog 64 #[.int .i64 (4 * (t.size : Int) + 2)] w' fun e w'' => e = .returned (.string y) ∧ (Below W1.heap.size W1 w'' ∧ w''.cell? ⟨wr.heap.size, 2, none⟩ = some (.string t)) := by
          rintro w' ⟨q1, q2⟩
          refine (cput_any (4 * t.size + 2) _ (by omega) y Hy.out (by omega) w').mono ?_
          rintro e w'' ⟨rfl, hb⟩
          have := q1.size
          exact ⟨rfl, q1.trans (hb.mono (by omega)), (hb.cell (by show wr.heap.size < _; omega)).trans q2⟩
        have Hput := Lib.hid hput
        have m1 : IntKind.i64.wrap (4 * (t.size : Int)) = 4 * (t.size : Int) := IntWalk.i64_in _ (by omega)
        have m2 : IntKind.i64.wrap (4 * (t.size : Int) + 2) = 4 * (t.size : Int) + 2 := IntWalk.i64_in _ (by omega)
        have hyt : (y ++ t).size = y.size + t.size := ByteArray.size_append ..
        have hbig1 : ¬ 9223372036854775807 < y.size + t.size := by omega
        have hbig2 : ¬ 9223372036854775807 < acc.size + (y.size + t.size) := by omega
        clear hput hpb hpl
        go_region_held3 (fun w' => Below W1.heap.size W1 w' ∧ w'.cell? ⟨wr.heap.size, 2, none⟩ = some (.string t)) (first | assumption | exact ⟨Below.drew (Below.refl _ _), by assumption⟩)
          ((first | (go_at_call 64; refine (Hput.out _ (by assumption)).mono ?_; rintro e w9 ⟨rfl, hb9⟩)))
        all_goals
          have hS9 : Below W1.heap.size W1 w9 := And.left (by assumption)
          have hw9 := hw1.trans (hS9.mono hw1.size)
          go_wp2_with fail
          go_roundw
          case rel => exact ⟨k + 1, acc ++ (y ++ t), by omega, by go_num, rfl, Lib.hid (by rw [bs_append, bs_append, hacc.out, Hvy.out, hts.out, Hwp.out, List.append_assoc]), by rw [ByteArray.size_append, ByteArray.size_append]; omega, hw9⟩
          case measure => simp [intOf]; omega
    · have hfin : acc = S := bs_ext (by
        rw [hacc.out, HS.out, List.take_of_length_le (by have := H.out.1; omega)]
        unfold wrL
        rw [← H.out.1])
      subst hfin
      go_wp2_with fail
      go_ret2
      exact ⟨rfl, hbw⟩
end Go.Proofs.Ytbgaoehpljnolaa
