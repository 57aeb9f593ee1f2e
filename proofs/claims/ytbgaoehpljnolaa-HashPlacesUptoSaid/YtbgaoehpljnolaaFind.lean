/- Contract of hash.Find. -/
import Derived.Test.YtbgaoehpljnolaaFindLaw
import Derived.Test.YtbgaoehpljnolaaInts
namespace Go.Proofs.Ytbgaoehpljnolaa
open Go.ChangeShapes Go.WideShapes Go.RowKit
set_option linter.unusedVariables false
set_option linter.unusedSimpArgs false
set_option maxRecDepth 100000
set_option maxHeartbeats 4000000

theorem bs_slice (s : ByteArray) (a b : Nat) : (s.extract a b).data.toList = (s.data.toList.take b).drop a := by rw [bs_extract]
theorem find_none (t : ByteArray) (w : World) :
    Calls Try.prog 15 #[.string t, .string ⟨#[]⟩] w fun e w' => e = .returned (.tuple #[.slice none 0 0, .int .i64 1]) ∧ Below w.heap.size w w' := by
  go_enter Try.func15, Try.ntmps15
  go_wp2_with fail
  go_ret2
  exact ⟨rfl, Below.refl _ _⟩
theorem find_short (t p : ByteArray) (w : World) (hp : p.toList.isEmpty = false) (ht : t.size ≤ 100000000) (hl : t.size < p.size) (hps : p.size ≤ 100000000) :
    Calls Try.prog 15 #[.string t, .string p] w fun e w' => e = .returned (.tuple #[.slice none 0 0, .int .i64 0]) ∧ Below w.heap.size w w' := by
  have hi : (t.size : Int) < (p.size : Int) := by omega
  go_enter Try.func15, Try.ntmps15
  go_wp2_with fail
  go_ret2
  exact ⟨rfl, Below.refl _ _⟩
theorem find_long (t p : ByteArray) (w : World) (hp : p.toList.isEmpty = false) (ht : t.size ≤ 100000000) (hl : p.size ≤ t.size) (hps : 0 < p.size) :
    Calls Try.prog 15 #[.string t, .string p] w fun e w' => ∃ v, e = .returned (.tuple #[v, .int .i64 0]) ∧ OwnI w' w.heap.size v (places t.data.toList p.data.toList (t.size + 1 - p.size)) ∧ Below w.heap.size w w' := by
  have hi : decide (t.size < p.size) = false := by simpa using hl
  obtain ⟨n, hn⟩ : ∃ n, p.size = n := ⟨_, rfl⟩
  have e0 : (t.extract 0 n).data.toList = win t.data.toList n 0 := by rw [bs_slice]; rfl
  have hes : (t.extract 0 n).size ≤ 9223372036854775807 := by rw [← bs_len, e0]; unfold win; rw [List.length_take]; omega
  obtain ⟨X, hX⟩ : ∃ X, t.extract 0 n = X := ⟨_, rfl⟩
  rw [hX] at e0 hes
  have H1 := fun w => hof_any p w (by omega)
  have H2 := fun w => hof_any X w hes
  rw [e0] at H2
  obtain ⟨HP, hHP⟩ : ∃ x, hashL p.data.toList = x := ⟨_, rfl⟩
  obtain ⟨HW, hHW⟩ : ∃ x, hashL (win t.data.toList n 0) = x := ⟨_, rfl⟩
  rw [hHP] at H1
  rw [hHW] at H2
  obtain ⟨m, hm⟩ : ∃ m, n = m + 1 := ⟨n - 1, by omega⟩
  have hw1 : IntKind.i64.wrap ((n : Int) - 1) = (m : Int) := by rw [show (n : Int) - 1 = (m : Int) by omega]; exact IntWalk.i64_in _ (by omega)
  have H3 := fun w => power_any m w (by omega)
  obtain ⟨Q, hQ⟩ : ∃ x, powN m = x := ⟨_, rfl⟩
  rw [hQ] at H3
  have hQl : (Q : Int) ≤ 2147483646 := by have := powN_lt m; omega
  have HQ2 : Hid (powN (n - 1) = Q) := Lib.hid (by rw [hm, Nat.add_sub_cancel]; exact hQ)
  have hnt : (n : Int) ≤ (t.size : Int) := by omega
  have hn0 : (0 : Int) ≤ (n : Int) := by omega
  have hb0 := Below.refl w.heap.size w
  have hpn : (p.size : Int) = (n : Int) := by omega
  have G1 := Lib.hid H1
  have G2 := Lib.hid H2
  have G3 := Lib.hid H3
  have HHP := Lib.hid hHP
  have HHW := Lib.hid hHW
  have HQ := Lib.hid hQ
  have Hm := Lib.hid hm
  have Hn := Lib.hid hn
  clear e0 hm H1 H2 H3 hHP hHW hQ hes hn
  go_enter Try.func15, Try.ntmps15
  go_wp2_with fail
  go_region_held3 (fun w' => Below w.heap.size w w')
    (first | assumption | exact Below.drew (by assumption) | (go_split_ands; assumption))
    ((first | (go_at_call 44; (first | (with_reducible refine (G1.out _).mono ?_) | (with_reducible refine (G2.out _).mono ?_)); rintro e w9 ⟨rfl, rfl⟩) | (go_at_call 45; with_reducible refine (G3.out _).mono ?_; rintro e w9 ⟨rfl, rfl⟩)))
  go_wp2_with fail
  go_loopw [8, 10, 11] (fun hv ov kv wr => ∃ k : Nat, kv = .int .i64 k ∧ k + n ≤ t.size ∧ hv = .int .i64 (hashL (win t.data.toList n k)) ∧ Hid (OwnI wr w.heap.size ov (places t.data.toList p.data.toList k)) ∧ Below w.heap.size w wr) (fun _ _ kv _ => t.size - (intOf kv).toNat)
  case atStart => exact ⟨0, rfl, by omega, by rw [HHW.out], Lib.hid (OwnI.nil _ _), by assumption⟩
  case round =>
    obtain ⟨k, rfl, hk, rfl, hown, hbw⟩ := hrel
    have hk0 : (0 : Int) ≤ (k : Int) := by omega
    have hkn : (k : Int) + (n : Int) ≤ (t.size : Int) := by omega
    have hkl : (k : Int) < (t.size : Int) := by omega
    obtain ⟨Y, hY⟩ : ∃ Y, t.extract k (k + n) = Y := ⟨_, rfl⟩
    have hYd : Y.data.toList = win t.data.toList n k := by rw [← hY, bs_slice]; unfold win; rw [List.drop_take, Nat.add_sub_cancel_left]
    have hYp : (Y.toList == p.toList) = decide (win t.data.toList n k = p.data.toList) := by
      rw [Bool.eq_iff_iff, beq_iff_eq, decide_eq_true_eq, ByteArray.toList_eq, ByteArray.toList_eq, hYd]
    obtain ⟨H, hH⟩ : ∃ x, hashL (win t.data.toList n k) = x := ⟨_, rfl⟩
    have hHl : (H : Int) ≤ 2147483646 := by have := hashL_lt (win t.data.toList n k); omega
    rw [hH]
    have HH := Lib.hid hH
    obtain ⟨A, c, rfl, hrd⟩ := hown.out.rd
    obtain ⟨L, hL⟩ : ∃ L, places t.data.toList p.data.toList k = L := ⟨_, rfl⟩
    have hLl : L.length ≤ 100000000 := by have := places_len t.data.toList p.data.toList k; rw [hL] at this; omega
    rw [hL] at hown hrd ⊢
    have HL := Lib.hid hL
    obtain ⟨j, hj⟩ : ∃ j, L.length = j := ⟨_, rfl⟩
    have Hown := Lib.hid hown.out
    rw [hj] at Hown ⊢
    have Hj := Lib.hid hj
    have hbs := hbw.size
    clear hH hL hj hrd hown hYd
    have hkw : k < t.size := by omega
    have hc8 : (t[k].toNat : Int) < 256 := by have := t[k].toNat_lt; omega
    by_cases hw : win t.data.toList n k = p.data.toList
    · rw [decide_eq_true hw] at hYp
      have hHe : H = HP := by rw [← HH.out, hw, HHP.out]
      subst hHe
      have hLn : Hid (places t.data.toList p.data.toList (k + 1) = L ++ [(k : Int)]) := Lib.hid (by rw [places_hit (by rw [bs_len, Hn.out]; exact hw), HL.out])
      have hn10 : (L ++ [(k : Int)]).length = j + 1 := by simp [Hj.out]
      have hend : t.size ≤ k + n ∨ k + n < t.size := by omega
      rcases hend with hend | hend
      · have hin : ((k : Int) + (n : Int) == (t.size : Int)) = true := by rw [beq_iff_eq]; omega
        go_wp2_with (first | (at_builtin; go_loud (refine wpList_app_int _ rfl (.tmp 45) (.tmp 47) rfl w.heap.size _ L rfl Hown.out k 1 rfl hLl hbs ?_; intro v4 w4 k1 k2 k3 k4)))
        go_ret2
        refine ⟨_, rfl, ?_, hbw.trans k2⟩
        rw [show t.size + 1 - p.size = k + 1 by rw [Hn.out]; omega, hLn.out]
        exact k1
      · have hin : ((k : Int) + (n : Int) == (t.size : Int)) = false := by rw [beq_eq_false_iff_ne]; omega
        have hki : (k : Int) + (n : Int) < (t.size : Int) := by omega
        have hd8 : ((t[k + n]'hend).toNat : Int) < 256 := by have := (t[k + n]'hend).toNat_lt; omega
        go_wp2_with (first | (at_builtin; go_loud (refine wpList_app_int _ rfl (.tmp 45) (.tmp 47) rfl w.heap.size _ L rfl Hown.out k 1 rfl hLl hbs ?_; intro v4 w4 k1 k2 k3 k4)))
        go_roundw
        case rel =>
          refine ⟨k + 1, by go_num, by omega, ?_, Lib.hid (by rw [hLn.out]; exact k1), hbw.trans k2⟩
          rw [roll_val H Q _ _ hHl hQl (by omega) (by omega), roll_next (by omega) (by rw [bs_len]; exact hend) HQ2.out, HH.out]
          rfl
        case measure => simp [intOf]; omega
    · rw [decide_eq_false hw] at hYp
      have hLn : Hid (places t.data.toList p.data.toList (k + 1) = L) := Lib.hid (by rw [places_miss (by rw [bs_len, Hn.out]; exact hw), HL.out])
      have hend : t.size ≤ k + n ∨ k + n < t.size := by omega
      have heq : ((H : Int) == (HP : Int)) = true ∨ ((H : Int) == (HP : Int)) = false := by cases ((H : Int) == (HP : Int)) <;> simp
      rcases hend with hend | hend
      · have hin : ((k : Int) + (n : Int) == (t.size : Int)) = true := by rw [beq_iff_eq]; omega
        rcases heq with heq | heq
        all_goals
          go_wp2_with fail
          go_ret2
          refine ⟨_, rfl, ?_, hbw⟩
          rw [show t.size + 1 - p.size = k + 1 by rw [Hn.out]; omega, hLn.out]
          exact Hown.out
      · have hin : ((k : Int) + (n : Int) == (t.size : Int)) = false := by rw [beq_eq_false_iff_ne]; omega
        have hki : (k : Int) + (n : Int) < (t.size : Int) := by omega
        have hd8 : ((t[k + n]'hend).toNat : Int) < 256 := by have := (t[k + n]'hend).toNat_lt; omega
        rcases heq with heq | heq
        all_goals
          go_wp2_with fail
          go_roundw
          case rel =>
            refine ⟨k + 1, by go_num, by omega, ?_, Lib.hid (by rw [hLn.out]; exact Hown.out), hbw⟩
            rw [roll_val H Q _ _ hHl hQl (by omega) (by omega), roll_next (by omega) (by rw [bs_len]; exact hend) HQ2.out, HH.out]
            rfl
          case measure => simp [intOf]; omega
theorem str_two (t : ByteArray) : t = ⟨#[]⟩ ∨ (t.toList.isEmpty = false ∧ 1 ≤ (t.size : Int)) := by
  by_cases h : t.data.toList = []
  · exact .inl (bs_ext (by rw [h]))
  · have hl := List.length_pos_iff.2 h
    rw [bs_len] at hl
    refine .inr ⟨?_, by omega⟩
    rw [ByteArray.toList_eq]
    cases hc : t.data.toList with
    | nil => exact absurd hc h
    | cons x l => rfl
theorem find_any (t p : ByteArray) (w : World) (ht : t.size ≤ 100000000) (hps : p.size ≤ 100000000) :
    Calls Try.prog 15 #[.string t, .string p] w fun e w' => ∃ v, e = .returned (.tuple #[v, .int .i64 (findE p.data.toList)]) ∧ OwnI w' w.heap.size v (findL t.data.toList p.data.toList) ∧ Below w.heap.size w w' := by
  rcases str_two p with rfl | ⟨h1, h2⟩
  · refine (find_none t w).mono ?_
    rintro e w1 ⟨rfl, hb⟩
    exact ⟨_, rfl, OwnI.nil _ _, hb⟩
  · have hp : p.data.toList ≠ [] := fun h => by have := bs_len p; rw [h] at this; simp at this; omega
    have hE : findE p.data.toList = 0 := by unfold findE; rw [if_neg hp]
    rw [hE]
    by_cases hl : t.size < p.size
    · refine (find_short t p w h1 ht hl hps).mono ?_
      rintro e w1 ⟨rfl, hb⟩
      exact ⟨_, rfl, by unfold findL; rw [if_neg hp, if_pos (by rw [bs_len, bs_len]; exact hl)]; exact OwnI.nil _ _, hb⟩
    · refine (find_long t p w h1 ht (by omega) (by omega)).mono ?_
      rintro e w1 ⟨v, rfl, ho, hb⟩
      exact ⟨v, rfl, by unfold findL; rw [if_neg hp, if_neg (by rw [bs_len, bs_len]; exact hl), bs_len, bs_len]; exact ho, hb⟩
end Go.Proofs.Ytbgaoehpljnolaa
