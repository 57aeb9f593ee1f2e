/- FrameBack: the walk. A frame is got as it was, whatever stands behind; cut short it is told. -/
import Derived.Test.YtdaiemhepaakfaaFrameLaw
import Derived.Test.YtdaiemhepaakfaaWithin
import Derived.Test.YtdaiemhepaakfaaOpen
namespace Go.Proofs.Ytdaiemhepaakfaa
open Go.ChangeShapes Go.WideShapes Go.RowKit
set_option linter.unusedVariables false
set_option linter.unusedSimpArgs false
set_option maxRecDepth 100000
set_option maxHeartbeats 4000000

theorem walk_FrameBack (v : Value) (f : Int × ByteArray) (hf : IsFrame v f) (more : ByteArray) (hm : more.size ≤ 140737488351232) (j : Int) (wj : (Lit.int .i64 j).wf = true) (w : World) :
    Calls Try.prog 9 #[v, .string more, .int .i64 j] w fun e w' => e = .returned (.bool true) ∧ Below w.heap.size w w' := by
  obtain ⟨k, b⟩ := f
  obtain ⟨rfl, hbs⟩ := hf
  simp only at hbs ⊢
  clear wj
  go_enter Try.func9, Try.ntmps9
  go_wp2_with fail
  refine (fput_good 3 ⟨#[]⟩ (by decide) (by decide) (by decide) _).mono ?_
  rintro e w1 ⟨rfl, hb1⟩
  rw [show frL 3 (⟨#[]⟩ : ByteArray).data.toList = [3, 0, 0, 9, 99, 74, 138] from frL_zero]
  have hblk1 := (Blk.new w 46 #[.int .i64 k, .string b]).below hb1 (by simp)
  have hbw1 : Below w.heap.size w w1 := ((Below.refl w.heap.size w).alloc (Nat.le_refl _) _).trans (hb1.mono (by simp))
  have hlt1 := hblk1.lt
  clear hb1
  have hx3 : ((⟨#[3, 0, 0, 9, 99, 74, 138]⟩ : ByteArray).extract 0 3).toList = [3, 0, 0] := by rw [ByteArray.toList_eq, bs_extract]; rfl
  have c0 := hblk1.cell 0
  have c1 := hblk1.cell 1
  by_cases hbad : (k < 1 ∨ 255 < k) ∨ 4000 < (b.size : Int)
  · have hput : ∃ er : Int, (er = 1 ∨ er = 2) ∧ ∀ w, Calls Try.prog 23 #[.agg #[.int .i64 k, .string b]] w fun e w' => e = .returned (.tuple #[.string ⟨#[]⟩, .int .i64 er]) ∧ Below w.heap.size w w' := by
      by_cases hk : k < 1 ∨ 255 < k
      · exact ⟨1, .inl rfl, fun w => fput_kind k b hk w⟩
      · exact ⟨2, .inr rfl, fun w => fput_large k b (by omega) (by omega) (by omega) w⟩
    obtain ⟨er, her, hput⟩ := hput
    have he : ((er : Int) != 0) = true := by rw [bne_iff_ne]; omega
    have Hput := Lib.hid hput
    clear hput
    go_wp2_with fail
    refine (Hput.out _).mono ?_
    rintro e w2 ⟨rfl, hb2⟩
    go_wp2_with fail
    go_ret
    exact ⟨rfl, hbw1.trans (hb2.mono hbw1.size)⟩
  · obtain ⟨k, rfl⟩ := Int.eq_ofNat_of_zero_le (show 0 ≤ k by omega)
    have hg := gf_frL k b.data.toList more.data.toList (by omega) (by omega) (by rw [bs_len]; omega)
    have hcut := fun i hi => gf_cut k b.data.toList i (by omega) (by omega) (by rw [bs_len]; omega) hi
    have hL := frL_len k b.data.toList
    rw [bs_len] at hL hg
    go_wp2_with fail
    refine (fput_good k b (by omega) (by omega) (by omega) _).mono ?_
    rintro e w2 ⟨rfl, hb2⟩
    have hbw2 := hbw1.trans (hb2.mono hbw1.size)
    have hblk2 := hblk1.below hb2 hlt1
    have hlt2 := hblk2.lt
    have c02 := hblk2.cell 0
    have c12 := hblk2.cell 1
    generalize frL k b.data.toList = L at *
    have hLs : (⟨L.toArray⟩ : ByteArray).size = L.length := bs_size L
    have Hg := Lib.hid hg
    have Hcut := Lib.hid hcut
    clear hg hcut c0 c1
    have HL := Lib.hid hL
    have HLs := Lib.hid hLs
    have hL1 : (0 : Int) < (L.length : Int) := by omega
    have hL2 : (L.length : Int) ≤ 4007 := by omega
    have hLs1 : ((⟨L.toArray⟩ : ByteArray).size : Int) ≤ 4007 := by omega
    clear hL hLs
    go_wp2_with fail
    refine (fget_any _ _).mono ?_
    rintro e w3 ⟨rfl, hb3⟩
    rw [bs_append, show (⟨L.toArray⟩ : ByteArray).data.toList = L from by simp, Hg.out]
    unfold frV
    simp only [bs_eta]
    have hbw3 := hbw2.trans (hb3.mono hbw2.size)
    have hblk3 := (hblk2.below hb3 hlt2).alloc (.cells #[.int .i64 k, .string b] 46)
    have hlt3 := hblk3.lt
    have hbw4 := hbw3.alloc hbw3.size (.cells #[.int .i64 k, .string b] 46)
    have hnew := Blk.new w3 46 #[.int .i64 k, .string b]
    have hnlt := hnew.lt
    have hc3 := (hblk2.below hb3 hlt2).cell 0
    have hc3' := (hblk2.below hb3 hlt2).cell 1
    clear c02 c12
    go_wp2_with fail
    refine (within_any j L.length _ (by omega) (by omega)).mono ?_
    rintro e w5 ⟨rfl, rfl⟩
    have hwi := wi_lt j L.length (by omega)
    generalize wi j L.length = i at *
    clear hc3 hc3'
    generalize w3.alloc (.cells #[.int .i64 k, .string b] 46) = W4 at *
    have c04 := hblk3.cell 0
    have c14 := hblk3.cell 1
    have n04 := hnew.cell 0
    have n14 := hnew.cell 1
    go_wp2_with fail
    refine (fget_any _ _).mono ?_
    rintro e w6 ⟨rfl, hb6⟩
    rw [bs_take, Hcut.out i hwi]
    unfold frV
    have hbw6 := hbw4.trans (hb6.mono hbw4.size)
    have d0 := (hblk3.below hb6 hlt3).cell 0
    have d1 := (hblk3.below hb6 hlt3).cell 1
    have e0 := (hnew.below hb6 hnlt).cell 0
    have e1 := (hnew.below hb6 hnlt).cell 1
    have l1 := (hnew.below hb6 hnlt).lt
    have l2 := (hblk3.below hb6 hlt3).lt
    clear c04 c14 n04 n14
    have hE : ((b.size : Int) + 7 == (L.length : Int)) = true := by rw [HL.out]; simp
    go_wp2_with fail
    go_ret
    exact ⟨rfl, hbw6.alloc hbw6.size _⟩
end Go.Proofs.Ytdaiemhepaakfaa
