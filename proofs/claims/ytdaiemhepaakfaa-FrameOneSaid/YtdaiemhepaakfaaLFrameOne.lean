/- FrameOne: the walk. What is got is put as it was. -/
import Derived.Test.YtdaiemhepaakfaaFrameLaw
namespace Go.Proofs.Ytdaiemhepaakfaa
open Go.ChangeShapes Go.WideShapes Go.RowKit
set_option linter.unusedVariables false
set_option linter.unusedSimpArgs false
set_option maxRecDepth 100000
set_option maxHeartbeats 4000000

theorem walk_FrameOne (s : ByteArray) (hs : s.size ≤ 140737488351232) (w : World) :
    Calls Try.prog 12 #[.string s] w fun e w' => e = .returned (.bool true) ∧ Below w.heap.size w w' := by
  go_enter Try.func12, Try.ntmps12
  go_wp2_with fail
  refine (fget_any _ _).mono ?_
  rintro e w1 ⟨rfl, hb1⟩
  rw [show gf (⟨#[1, 0, 0]⟩ : ByteArray).data.toList = (0, [], 0, 5) from rfl]
  unfold frV
  go_wp2_with fail
  have hb1' : Below w.heap.size w (w1.alloc (.cells #[.int .i64 0, .string ⟨#[]⟩] 46)) := hb1.alloc hb1.size _
  clear hb1
  have hw := gf_wrong s.data.toList
  have hg := frL_gf s.data.toList
  have hle := gf_le s.data.toList
  refine (fget_any _ _).mono ?_
  rintro e w2 ⟨rfl, hb2⟩
  have hb := hb1'.trans (hb2.mono hb1'.size)
  clear hb1' hb2
  generalize gf s.data.toList = x at hw hg hle ⊢
  obtain ⟨k, b, n, err⟩ := x
  unfold frV
  simp only at hw hg hle ⊢
  by_cases he : err = 0
  · subst he
    obtain ⟨h1, h2, h3⟩ := hg rfl
    have Hg := Lib.hid h3
    have hb4 := hle.2
    have hk4 := hle.1
    clear hw hg hle h3
    have h2' : (n : Int) ≤ (s.size : Int) := by rw [bs_len] at h2; omega
    have hn0 : (0 : Int) ≤ (n : Int) := by omega
    go_wp2_with fail
    refine (fput_good k ⟨b.toArray⟩ (by omega) (by omega) (by rw [bs_size]; omega) _).mono ?_
    rintro e w3 ⟨rfl, hb3⟩
    have hbw := (hb.alloc hb.size (.cells #[.int .i64 k, .string ⟨b.toArray⟩] 46)).trans (hb3.mono (by have := hb.size; simp; omega))
    go_wp2_with fail
    go_ret
    refine ⟨?_, hbw⟩
    show Ending.returned (.bool (frL k b == (s.extract 0 n).toList)) = _
    rw [ByteArray.toList_eq, bs_extract, List.drop_zero, Hg.out]
    simp
  · obtain ⟨rfl, rfl, rfl⟩ : k = 0 ∧ b = [] ∧ n = 0 := by simpa using hw he
    have he' : ((err : Int) != 0) = true := by rw [bne_iff_ne]; omega
    clear hw hg hle
    go_wp2_with fail
    go_ret
    exact ⟨rfl, hb.alloc hb.size _⟩
end Go.Proofs.Ytdaiemhepaakfaa
