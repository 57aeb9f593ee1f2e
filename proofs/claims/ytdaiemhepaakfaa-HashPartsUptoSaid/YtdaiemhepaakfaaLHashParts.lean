/- HashParts: the walk. The sum of a text and another is made of both. -/
import Derived.Test.YtdaiemhepaakfaaHash
namespace Go.Proofs.Ytdaiemhepaakfaa
open Go.ChangeShapes Go.WideShapes Go.RowKit
set_option linter.unusedVariables false
set_option linter.unusedSimpArgs false
set_option maxRecDepth 100000
set_option maxHeartbeats 4000000

theorem join_hash (l m : List UInt8) (n : Int) (w : World) (hn : n = (m.length : Int)) (hm : m.length ≤ 2147483647) :
    Calls Try.prog 19 #[.int .i64 (hashL l), .int .i64 (hashL m), .int .i64 n] w fun e w' => e = .returned (.tuple #[.int .i64 (hashL (l ++ m)), .int .i64 0]) ∧ w = w' := by
  subst hn
  have h := join_good (hashL l) (hashL m) m.length w (by omega) (by have := hashL_lt l; omega) (by have := hashL_lt m; omega)
  rw [hashL_append]
  unfold powN at h
  exact h

theorem walk_HashParts (s : ByteArray) (hs : s.size ≤ 1048576) (t : ByteArray) (ht : t.size ≤ 1048576) (u : ByteArray) (hu : u.size ≤ 1048576) (w : World) :
    Calls Try.prog 6 #[.string s, .string t, .string u] w fun e w' => e = .returned (.bool true) ∧ Below w.heap.size w w' := by
  have h0 : hashL (⟨#[]⟩ : ByteArray).data.toList = 0 := rfl
  have h1 : hashL (⟨#[97, 98]⟩ : ByteArray).data.toList = 25285 := by decide +kernel
  have H1 := Lib.hid h1
  have H0 := Lib.hid h0
  clear h0 h1
  go_enter Try.func6, Try.ntmps6
  go_wp2_with fail
  refine (hof_any _ _ (by decide)).mono ?_
  rintro e w1 ⟨rfl, rfl⟩
  rw [H0.out]
  go_wp2_with fail
  refine (hof_any _ _ (by decide)).mono ?_
  rintro e w1 ⟨rfl, rfl⟩
  rw [H1.out]
  go_wp2_with fail
  refine (hof_any _ _ (by omega)).mono ?_
  rintro e w1 ⟨rfl, rfl⟩
  go_wp2_with fail
  refine (hof_any _ _ (by omega)).mono ?_
  rintro e w1 ⟨rfl, rfl⟩
  go_wp2_with fail
  refine (join_hash _ _ _ _ rfl (by rw [bs_len]; omega)).mono ?_
  rintro e w1 ⟨rfl, rfl⟩
  go_wp2_with fail
  refine (hof_any _ _ (by omega)).mono ?_
  rintro e w1 ⟨rfl, rfl⟩
  go_wp2_with fail
  refine (join_hash _ _ _ _ rfl (by rw [bs_len]; omega)).mono ?_
  rintro e w1 ⟨rfl, rfl⟩
  go_wp2_with fail
  refine (hof_any _ _ (by omega)).mono ?_
  rintro e w1 ⟨rfl, rfl⟩
  go_wp2_with fail
  refine (hof_any _ _ (by omega)).mono ?_
  rintro e w1 ⟨rfl, rfl⟩
  go_wp2_with fail
  refine (join_hash _ _ _ _ rfl (by rw [bs_len]; omega)).mono ?_
  rintro e w1 ⟨rfl, rfl⟩
  go_wp2_with fail
  refine (hof_any _ _ (by omega)).mono ?_
  rintro e w1 ⟨rfl, rfl⟩
  go_wp2_with fail
  refine (join_hash _ _ _ _ (by rw [List.length_append, bs_len, bs_len]; omega) (by rw [List.length_append, bs_len, bs_len]; omega)).mono ?_
  rintro e w1 ⟨rfl, rfl⟩
  go_wp2_with fail
  refine (hof_any _ _ (by rw [ByteArray.size_append]; omega)).mono ?_
  rintro e w1 ⟨rfl, rfl⟩
  rw [bs_append]
  go_wp2_with fail
  refine (hof_any _ _ (by rw [ByteArray.size_append, ByteArray.size_append]; omega)).mono ?_
  rintro e w1 ⟨rfl, rfl⟩
  rw [bs_append, bs_append, List.append_assoc]
  go_wp2_with fail
  go_ret
  exact ⟨rfl, Below.refl _ _⟩
end Go.Proofs.Ytdaiemhepaakfaa
