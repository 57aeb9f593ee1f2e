/- HashPlaces: the walk. Where a text stands in another. -/
import Derived.Test.YtbgaoehpljnolaaFind
import Derived.Test.YtbgaoehpljnolaaWithin
namespace Go.Proofs.Ytbgaoehpljnolaa
open Go.ChangeShapes Go.WideShapes Go.RowKit
set_option linter.unusedVariables false
set_option linter.unusedSimpArgs false
set_option maxRecDepth 100000
set_option maxHeartbeats 4000000

theorem find_asc (t p : List UInt8) : (findL t p).Pairwise (· < ·) := by
  unfold findL
  split
  · exact List.Pairwise.nil
  · split
    · exact List.Pairwise.nil
    · unfold places
      rw [List.pairwise_map]
      exact (List.pairwise_lt_range.filter _).imp fun h => Int.ofNat_lt.2 h
theorem find_at_k {t p : List UInt8} (hp : p ≠ []) {k : Nat} (hk : k ≤ t.length) : (k : Int) ∈ findL (t.take k ++ p ++ t.drop k) p := by
  rw [mem_find hp]
  refine ⟨k, rfl, by simp only [List.length_append, List.length_take, List.length_drop]; omega, ?_⟩
  have h := win_right (t.take k) (p ++ t.drop k) p 0
  rw [List.length_take, Nat.min_eq_left hk, Nat.add_zero] at h
  rw [List.append_assoc, h]
  unfold win
  simp
theorem find_shift {o t p : List UInt8} (hp : p ≠ []) {x : Int} (h : x ∈ findL t p) : (o.length : Int) + x ∈ findL (o ++ t) p := by
  rw [mem_find hp] at h ⊢
  obtain ⟨i, rfl, h1, h2⟩ := h
  exact ⟨o.length + i, by omega, by rw [List.length_append]; omega, by rw [win_right]; exact h2⟩
theorem asc_next {L : List Int} (h : L.Pairwise (· < ·)) {j : Nat} (hj : j < L.length) : ∀ x ∈ L.drop (j + 1), L[j] < x := by
  have h2 := h.drop (i := j)
  rw [List.drop_eq_getElem_cons hj, List.pairwise_cons] at h2
  exact h2.1
theorem find_rd (t p : ByteArray) (w : World) (ht : t.size ≤ 100000000) (hps : p.size ≤ 100000000) (L : List Int) (n : Nat) (E : Int) (hL : findL t.data.toList p.data.toList = L) (hn : L.length = n) (hE : findE p.data.toList = E) :
    Calls Try.prog 15 #[.string t, .string p] w fun e w' => ∃ A c, e = .returned (.tuple #[.slice A n c, .int .i64 E]) ∧ RdI w' w'.heap.size A n c L ∧ Below w.heap.size w w' := by
  refine (find_any t p w ht hps).mono ?_
  rintro e w1 ⟨v, rfl, ho, hb⟩
  rw [hL] at ho
  obtain ⟨A, c, rfl, hr⟩ := ho.rd
  rw [hn] at hr ⊢
  rw [hE]
  exact ⟨A, c, rfl, hr, hb⟩
theorem hashPlaces_empty (t o : ByteArray) (k : Int) (w : World) (ht : t.size ≤ 4000000) :
    Calls Try.prog 3 #[.string t, .string ⟨#[]⟩, .string o, .int .i64 k] w fun e w' => e = .returned (.bool true) ∧ Below w.heap.size w w' := by
  go_enter Try.func3, Try.ntmps3
  go_wp2_with fail
  refine (find_rd ⟨#[97, 97, 97]⟩ ⟨#[97, 97]⟩ _ (by decide) (by decide) [0, 1] 2 0 (by decide) rfl (by decide)).mono ?_
  rintro e w1 ⟨A1, c1, rfl, hr1, hb1⟩
  have Hr1 := Lib.hid hr1
  clear hr1
  go_wp2_with fail
  have hq := RdI.built w1 #[.int .i64 0, .int .i64 1] [0, 1] 2 rfl rfl (by decide)
  refine (equal_any [0, 1] [0, 1] A1 _ 2 2 c1 2 _ _ _ (Hr1.out.alloc (Nat.le_refl _) _) hq rfl).mono ?_
  rintro e w2 ⟨rfl, hb2⟩
  have hw2 := (hb1.alloc hb1.size (.cells #[.int .i64 0, .int .i64 1] 3)).trans (hb2.mono (by simp; have := hb1.size; omega))
  clear hb1 hb2 hq Hr1
  go_wp2_with fail
  refine (find_rd t ⟨#[]⟩ _ (by omega) (by decide) [] 0 1 (by unfold findL; rw [if_pos rfl]) rfl (by decide)).mono ?_
  rintro e w3 ⟨A3, c3, rfl, hr3, hb3⟩
  have hw3 := hw2.trans (hb3.mono hw2.size)
  go_wp2_with fail
  go_ret
  exact ⟨rfl, hw3⟩
theorem hashPlaces_full (t p o : ByteArray) (k : Int) (w : World) (ht : t.size ≤ 4000000) (hps : p.size ≤ 4000000) (ho : o.size ≤ 4000000) (hpe : p.toList.isEmpty = false) (hp : p.data.toList ≠ []) :
    Calls Try.prog 3 #[.string t, .string p, .string o, .int .i64 k] w fun e w' => e = .returned (.bool true) ∧ Below w.heap.size w w' := by
  obtain ⟨L, hL⟩ : ∃ L, findL t.data.toList p.data.toList = L := ⟨_, rfl⟩
  obtain ⟨n, hn⟩ : ∃ n, L.length = n := ⟨_, rfl⟩
  have hE : findE p.data.toList = 0 := by unfold findE; rw [if_neg hp]
  have hasc := find_asc t.data.toList p.data.toList
  rw [hL] at hasc
  have Hasc := Lib.hid hasc
  have HL := Lib.hid hL
  have Hn := Lib.hid hn
  have HE := Lib.hid hE
  have Hp := Lib.hid hp
  clear hL hn hE hasc hp
  go_enter Try.func3, Try.ntmps3
  go_wp2_with fail
  refine (find_rd ⟨#[97, 97, 97]⟩ ⟨#[97, 97]⟩ _ (by decide) (by decide) [0, 1] 2 0 (by decide) rfl (by decide)).mono ?_
  rintro e w1 ⟨A1, c1, rfl, hr1, hb1⟩
  have Hr1 := Lib.hid hr1
  clear hr1
  go_wp2_with fail
  have hq := RdI.built w1 #[.int .i64 0, .int .i64 1] [0, 1] 2 rfl rfl (by decide)
  refine (equal_any [0, 1] [0, 1] A1 _ 2 2 c1 2 _ _ _ (Hr1.out.alloc (Nat.le_refl _) _) hq rfl).mono ?_
  rintro e w2 ⟨rfl, hb2⟩
  have hw2 := (hb1.alloc hb1.size (.cells #[.int .i64 0, .int .i64 1] 3)).trans (hb2.mono (by simp; have := hb1.size; omega))
  clear hb1 hb2 hq Hr1
  go_wp2_with fail
  refine (find_rd t p _ (by omega) (by omega) L n 0 HL.out Hn.out HE.out).mono ?_
  rintro e w3 ⟨A3, c3, rfl, hr3, hb3⟩
  have hw3 := hw2.trans (hb3.mono hw2.size)
  have Hr3 := Lib.hid hr3
  clear hb3 hr3
  obtain ⟨q, hq⟩ : ∃ q, p.size = q := ⟨_, rfl⟩
  have hqi : (p.size : Int) = (q : Int) := by omega
  have Hq := Lib.hid hq
  clear hq
  go_wp2_with fail
  have hn63 := Hr3.out.le
  go_loopw [13, 15, 50] (fun last atv iv wr => ∃ (j : Nat) (y : Int), j ≤ n ∧ iv = .int .i64 j ∧ last = .int .i64 y ∧ Hid (∀ x ∈ L.drop j, y < x) ∧ Below w3.heap.size w3 wr) (fun _ _ iv _ => n - (intOf iv).toNat)
  case atStart =>
    refine ⟨0, -1, by omega, rfl, rfl, Lib.hid fun x hx => ?_, Below.refl _ _⟩
    rw [List.drop_zero, ← HL.out, mem_find Hp.out] at hx
    obtain ⟨i, rfl, _⟩ := hx
    omega
  case round =>
    obtain ⟨j, y, hj, rfl, rfl, hlast, hbw⟩ := hrel
    by_cases hlt : j < n
    · have hjl : j < L.length := by have := Hn.out; omega
      obtain ⟨b, of, rfl, hbb, hc⟩ := (Hr3.out.below hbw).at_ j hlt
      have hmem := (mem_find (t := t.data.toList) Hp.out).1 (show L[j] ∈ findL t.data.toList p.data.toList by rw [HL.out]; exact List.getElem_mem hjl)
      have hnx := Lib.hid (asc_next Hasc.out hjl)
      have hyl : y < L[j] := hlast.out _ (by rw [List.drop_eq_getElem_cons hjl]; exact List.mem_cons_self)
      generalize L[j] = u at *
      obtain ⟨i, rfl, h1, h2⟩ := hmem
      rw [bs_len, bs_len, Hq.out] at h1
      rw [bs_len, Hq.out] at h2
      obtain ⟨Y, hY⟩ : ∃ Y, t.extract i (i + q) = Y := ⟨_, rfl⟩
      have hYp : (Y.toList == p.toList) = true := by
        rw [beq_iff_eq, ByteArray.toList_eq, ByteArray.toList_eq, ← hY, bs_slice, ← h2]; unfold win; rw [List.drop_take, Nat.add_sub_cancel_left]
      have hj0 : (0 : Int) ≤ (j : Int) := by omega
      have hjn : (j : Int) < (n : Int) := by omega
      have hi0 : (0 : Int) ≤ (i : Int) := by omega
      have hiq : (i : Int) + (q : Int) ≤ (t.size : Int) := by omega
      have hle : decide ((i : Int) ≤ y) = false := by rw [decide_eq_false_iff_not]; omega
      clear h2
      go_wp2_with fail
      go_roundw
      case rel => exact ⟨j + 1, i, by omega, by go_num, rfl, hnx, hbw⟩
      case measure => simp [intOf]; omega
    · have hjn : decide (j < n) = false := by simpa using hlt
      go_wp2_with fail
      have hc := within_any k (t.size + 1) wr (by omega) (by omega)
      rw [show ((t.size + 1 : Nat) : Int) = (t.size : Int) + 1 by omega] at hc
      refine hc.mono ?_
      rintro e w4 ⟨rfl, rfl⟩
      clear hc
      have hK := wi_lt k (t.size + 1) (by omega)
      generalize wi k (t.size + 1) = K at *
      have hK0 : (0 : Int) ≤ (K : Int) := by omega
      have hKt : (K : Int) ≤ (t.size : Int) := by omega
      have hbw3 := hbw.size
      have hwr := hw3.trans (hbw.mono hw3.size)
      have Hr4 := Lib.hid (Hr3.out.below hbw)
      clear hlast hbw
      obtain ⟨Y1, hY1⟩ : ∃ Y, t.extract 0 K = Y := ⟨_, rfl⟩
      obtain ⟨Y2, hY2⟩ : ∃ Y, t.extract K t.size = Y := ⟨_, rfl⟩
      obtain ⟨Y3, hY3⟩ : ∃ Y, Y1 ++ p = Y := ⟨_, rfl⟩
      obtain ⟨X, hX⟩ : ∃ Y, Y3 ++ Y2 = Y := ⟨_, rfl⟩
      have d1 : Y1.data.toList = t.data.toList.take K := by rw [← hY1, bs_slice]; simp
      have d2 : Y2.data.toList = t.data.toList.drop K := by rw [← hY2, bs_slice, ← bs_len, List.take_length]
      have s1 : Y1.size ≤ 4000000 := by rw [← bs_len, d1, List.length_take, bs_len]; omega
      have s2 : Y2.size ≤ 4000000 := by rw [← bs_len, d2, List.length_drop, bs_len]; omega
      have s3 : Y3.size ≤ 8000000 := by rw [← hY3, ByteArray.size_append]; omega
      have sX : X.size ≤ 12000000 := by rw [← hX, ByteArray.size_append]; omega
      have dX : X.data.toList = t.data.toList.take K ++ p.data.toList ++ t.data.toList.drop K := by rw [← hX, bs_append, ← hY3, bs_append, d1, d2]
      obtain ⟨M, hM⟩ : ∃ M, findL X.data.toList p.data.toList = M := ⟨_, rfl⟩
      obtain ⟨m, hm⟩ : ∃ m, M.length = m := ⟨_, rfl⟩
      have hKM : Hid (decide ((K : Int) ∈ M) = true) := Lib.hid (decide_eq_true (by rw [← hM, dX]; exact find_at_k Hp.out (by rw [bs_len]; omega)))
      have Hf : Hid (∀ w', Below wr.heap.size wr w' → Calls Try.prog 15 #[.string X, .string p] w' fun e w'' => ∃ A c, e = .returned (.tuple #[.slice A m c, .int .i64 0]) ∧ RdI w'' w''.heap.size A m c M ∧ Below wr.heap.size wr w'') := Lib.hid fun w' hb => by
        refine (find_rd X p w' (by omega) (by omega) M m 0 hM hm HE.out).mono ?_
        rintro e w'' ⟨A, c, e1, h1, h2⟩
        exact ⟨A, c, e1, h1, hb.trans (h2.mono hb.size)⟩
      obtain ⟨X2, hX2⟩ : ∃ Y, o ++ t = Y := ⟨_, rfl⟩
      have sX2 : X2.size ≤ 12000000 := by rw [← hX2, ByteArray.size_append]; omega
      have dX2 : X2.data.toList = o.data.toList ++ t.data.toList := by rw [← hX2, bs_append]
      have g3 : (9223372036854775807 < o.size + t.size) = False := by simp; omega
      obtain ⟨M2, hM2⟩ : ∃ M, findL X2.data.toList p.data.toList = M := ⟨_, rfl⟩
      obtain ⟨m2, hm2⟩ : ∃ m, M2.length = m := ⟨_, rfl⟩
      have HM2 := Lib.hid hM2
      have Hm2 := Lib.hid hm2
      have HS : Hid (∀ x ∈ L, decide ((o.size : Int) + x ∈ M2) = true) := Lib.hid fun x hx => decide_eq_true (by rw [← hM2, dX2, ← bs_len]; exact find_shift Hp.out (by rw [HL.out]; exact hx))
      clear hM2 hm2 dX2
      have hbr := Below.refl wr.heap.size wr
      have g1 : (9223372036854775807 < Y1.size + p.size) = False := by simp; omega
      have g2 : (9223372036854775807 < Y3.size + Y2.size) = False := by simp; omega
      clear d1 d2 dX hM hm
      go_wp2_with fail
      go_region_held3 (fun w' => Below wr.heap.size wr w')
        (first | assumption | exact Below.drew (by assumption))
        ((first | (go_at_call 15; with_reducible refine (Hf.out _ (by assumption)).mono ?_; rintro e w9 ⟨A9, c9, rfl, hr9, hb9⟩)))
      have Hr9 := Lib.hid hr9
      have hw9 := hwr.trans (hb9.mono hwr.size)
      have Hr4b := Lib.hid ((Hr4.out.below (hb9.mono (hbw3))))
      clear hr9
      go_wp2_with fail
      refine (find_rd X2 p _ (by omega) (by omega) M2 m2 0 HM2.out Hm2.out HE.out).mono ?_
      rintro e w10 ⟨A10, c10, rfl, hr10, hb10⟩
      have hw10 := hw9.trans (hb10.mono hw9.size)
      have Hr10 := Lib.hid hr10
      have Hr9b := Lib.hid ((Hr9.out.below hb10))
      have Hr4c := Lib.hid (Hr4b.out.below (hb10.mono (by have := hb9.size; omega)))
      clear hr10 Hr9 Hr4b
      go_wp2_with fail
      refine (contains_any M K A9 m c9 _ _ Hr9b.out true hKM.out).mono ?_
      rintro e w11 ⟨rfl, rfl⟩
      go_wp2_with fail
      go_loopw [20, 120] (fun atv iv wr => ∃ j : Nat, j ≤ n ∧ iv = .int .i64 j ∧ wr = w10) (fun _ iv _ => n - (intOf iv).toNat)
      case atStart => exact ⟨0, by omega, rfl, rfl⟩
      case round =>
        obtain ⟨j, hj, rfl, rfl⟩ := hrel
        by_cases hlt : j < n
        · have hjl : j < L.length := by have := Hn.out; omega
          obtain ⟨b, of, rfl, hbb, hc⟩ := Hr4c.out.at_ j hlt
          have hmem := HS.out _ (List.getElem_mem hjl)
          have hm3 := (mem_find (t := t.data.toList) Hp.out).1 (show L[j] ∈ findL t.data.toList p.data.toList by rw [HL.out]; exact List.getElem_mem hjl)
          generalize L[j] = u at *
          obtain ⟨i, rfl, h1, _⟩ := hm3
          rw [bs_len, bs_len] at h1
          have hj0 : (0 : Int) ≤ (j : Int) := by omega
          have hjn : (j : Int) < (n : Int) := by omega
          have hil : (i : Int) ≤ 4000000 := by omega
          have hoi : (o.size : Int) ≤ 4000000 := by omega
          clear h1
          go_wp2_with fail
          refine (contains_any M2 _ A10 m2 c10 _ _ Hr10.out true hmem).mono ?_
          rintro e w12 ⟨rfl, rfl⟩
          go_wp2_with fail
          go_roundw
          case rel => exact ⟨j + 1, by omega, by go_num, trivial⟩
          case measure => simp [intOf]; omega
        · have hjn : decide (j < n) = false := by simpa using hlt
          go_wp2_with fail
          go_ret
          exact ⟨rfl, hw10⟩
theorem walk_HashPlaces (t : ByteArray) (ht : t.size ≤ 1048576) (p : ByteArray) (hps : p.size ≤ 1048576) (o : ByteArray) (ho : o.size ≤ 1048576) (k : Int) (wk : (Lit.int .i64 k).wf = true) (w : World) :
    Calls Try.prog 3 #[.string t, .string p, .string o, .int .i64 k] w fun e w' => e = .returned (.bool true) ∧ Below w.heap.size w w' := by
  rcases str_two p with rfl | ⟨h1, h2⟩
  · exact hashPlaces_empty t o k w (by omega)
  · exact hashPlaces_full t p o k w (by omega) (by omega) (by omega) h1 (fun h => by have := bs_len p; rw [h] at this; simp at this; omega)
end Go.Proofs.Ytbgaoehpljnolaa
