/- Contract of spot.Of; the laws' helper put. -/
import Derived.Test.YtbgaoehpljnolaaSame
import Derived.Test.YtbgaoehpljnolaaSpotLaw
namespace Go.Proofs.Ytbgaoehpljnolaa
open Go.ChangeShapes Go.WideShapes Go.RowKit
set_option linter.unusedVariables false
set_option linter.unusedSimpArgs false
set_option maxRecDepth 100000
set_option maxHeartbeats 4000000

theorem sp_at_units (l : List Pt) (k : Nat) (hk : k < l.length) : units (l.drop k) = up l[k] ++ units (l.drop (k + 1)) := by rw [List.drop_eq_getElem_cons hk, units_cons]
theorem spot_any (l : List Pt) (A : Option Addr) (n c B : Nat) (at_ : Nat) (late : Bool) (w : World) (h : RdP w B A n c l) (hB : B ≤ w.heap.size) (hk : chk l = 0) (ha : (at_ : Int) ≤ (nI (units l) : Int)) :
    Calls Try.prog 29 #[.slice A n c, .int .i64 at_, .bool late] w fun e w' => e = .returned (.tuple #[.int .i64 (sp late (units l) at_), .int .i64 0]) ∧ Below w.heap.size w w' := by
  have H := Lib.hid h
  have Hk := Lib.hid hk
  have HF := Lib.hid ((good_iff l).1 hk)
  have hn : (n : Int) ≤ 1600 := by have := HF.out.1; have := h.1; omega
  have hin : (nI (units l) : Int) ≤ 500 := by have := Good.nI (l := l) hk; have := HF.out.2.2.2.1; omega
  have hspb : Hid (sp late (units l) at_ ≤ 500) := Lib.hid (by have := sp_le late (units l) at_; have := Good.nO (l := l) hk; have := HF.out.2.2.2.2; omega)
  obtain ⟨tot, ht⟩ : ∃ tot, sp late (units l) at_ = tot := ⟨_, rfl⟩
  rw [ht] at hspb ⊢
  have htb := hspb.out
  have Ht := Lib.hid ht
  have ha0 : (0 : Int) ≤ (at_ : Int) := by omega
  have hna : decide (nI (units l) < at_) = false := by simp; omega
  clear h hk ht
  go_enter Try.func29, Try.ntmps29
  go_wp2_with fail
  refine (psizes_good l A n c B _ H.out hB Hk.out).mono ?_
  rintro e w1 ⟨rfl, hb1⟩
  go_wp2_with fail
  go_loopw [11, 12, 14, 33] (fun x y q i wr => ∃ (k f t : Nat), k ≤ n ∧ i = .int .i64 k ∧ x = .int .i64 f ∧ y = .int .i64 t ∧ Hid (SpRest late (units (l.drop k)) at_ f t tot) ∧ t ≤ tot ∧ f ≤ 500 * k ∧ Below w.heap.size w wr) (fun _ _ _ i _ => n - (intOf i).toNat)
  case atStart => exact ⟨0, 0, 0, by omega, rfl, rfl, rfl, Lib.hid (.inl ⟨by omega, by rw [← Ht.out, List.drop_zero]; simp⟩), by omega, by omega, hb1⟩
  case round =>
    obtain ⟨k, f, t, hkn, rfl, rfl, rfl, hrest, htt, hf, hbw⟩ := hrel
    by_cases hlt : k < n
    · have hkl : k < l.length := by have := H.out.1; omega
      obtain ⟨g, o, rfl, hg, c0, c1, c2⟩ := (H.out.below (hbw.mono hB)).at_ k hlt
      have hbd := fit_bounds _ (HF.out.2.2.1 l[k] (List.getElem_mem hkl))
      have hun := sp_at_units l k hkl
      obtain ⟨p, hp⟩ : ∃ p, p = l[k] := ⟨_, rfl⟩
      rw [← hp] at hbd c0 c1 c2 hun
      clear hp
      have hr2 := hrest.out
      rw [hun] at hr2
      obtain ⟨kd, m, s⟩ := p
      simp only at hbd c0 c1 c2
      have hk0 : (0 : Int) ≤ (k : Int) := by omega
      have hkn2 : (k : Int) < (n : Int) := by omega
      have hgl : g < wr.heap.size := by have := hbw.size; omega
      clear hun hrest
      rcases hbd with ⟨rfl | rfl, h1, h2, rfl⟩ | ⟨rfl, rfl, h1, h2⟩
      · obtain ⟨z, rfl⟩ := Int.eq_ofNat_of_zero_le (show 0 ≤ m by omega)
        obtain ⟨y, hy⟩ := Int.eq_ofNat_of_zero_le (show 0 ≤ max 0 (min (z : Int) ((at_ : Int) - f)) by omega)
        have hr3 := Lib.hid (rest_keep (n := z) (by simpa [up] using hr2) y hy.symm)
        have hyt : t + y ≤ tot := by rcases hr3.out with ⟨_, h⟩ | ⟨_, h⟩ <;> omega
        obtain ⟨x, hx⟩ : ∃ x, min (z : Int) ((at_ : Int) - f) = x := ⟨_, rfl⟩
        rw [hx] at hy
        have Hx := Lib.hid hx
        have Hy := Lib.hid hy
        clear hr2 hx hy
        go_wp2_with (first | (refine wpList_min2 rfl (.tmp 67) (.tmp 70) _ rfl _ _ _ rfl rfl Hx.out ?_) | (refine wpList_max2 rfl (.const (.int .i64 0)) (.tmp 71) _ rfl _ _ _ rfl rfl Hy.out ?_))
        go_roundw
        case rel => exact ⟨k + 1, f + z, t + y, by omega, by go_num, by go_num, by go_num, hr3, by omega, by omega, hbw.alloc hbw.size _⟩
        case measure => simp [intOf]; omega
      · obtain ⟨z, rfl⟩ := Int.eq_ofNat_of_zero_le (show 0 ≤ m by omega)
        have hr3 := Lib.hid (rest_cut (n := z) (by simpa [up] using hr2))
        clear hr2
        go_wp2_with fail
        go_roundw
        case rel => exact ⟨k + 1, f + z, t, by omega, by go_num, by go_num, by go_num, hr3, by omega, by omega, hbw.alloc hbw.size _⟩
        case measure => simp [intOf]; omega
      · by_cases hfa : f < at_
        · have hr3 := Lib.hid (rest_put (s := s.data.toList) (by simpa [up] using hr2) (.inl hfa))
          rw [bs_len] at hr3
          have hyt : t + s.size ≤ tot := by rcases hr3.out with ⟨_, h⟩ | ⟨_, h⟩ <;> omega
          have hfi : (f : Int) < (at_ : Int) := by omega
          clear hr2
          go_wp2_with fail
          go_roundw
          case rel => exact ⟨k + 1, f, t + s.size, by omega, by go_num, by go_num, by go_num, hr3, by omega, by omega, hbw.alloc hbw.size _⟩
          case measure => simp [intOf]; omega
        · have hfd : decide (f < at_) = false := by simpa using hfa
          have hfi : ¬ (f : Int) < (at_ : Int) := by omega
          cases late with
          | false =>
            have hr3 := Lib.hid (rest_noput (s := s.data.toList) (by simpa [up] using hr2) (by rintro (h | h); exact hfa h; simp at h))
            clear hr2
            go_wp2_with fail
            go_roundw
            case rel => exact ⟨k + 1, f, t, by omega, by go_num, by go_num, by go_num, hr3, by omega, by omega, hbw.alloc hbw.size _⟩
            case measure => simp [intOf]; omega
          | true =>
            by_cases hfe : f = at_
            · subst hfe
              have hr3 := Lib.hid (rest_put (s := s.data.toList) (by simpa [up] using hr2) (.inr ⟨rfl, rfl⟩))
              rw [bs_len] at hr3
              have hyt : t + s.size ≤ tot := by rcases hr3.out with ⟨_, h⟩ | ⟨_, h⟩ <;> omega
              clear hr2
              go_wp2_with fail
              go_roundw
              case rel => exact ⟨k + 1, f, t + s.size, by omega, by go_num, by go_num, by go_num, hr3, by omega, by omega, hbw.alloc hbw.size _⟩
              case measure => simp [intOf]; omega
            · have hr3 := Lib.hid (rest_noput (s := s.data.toList) (by simpa [up] using hr2) (by rintro (h | h); exact hfa h; exact hfe h.2))
              have hfe' : ((f : Int) == (at_ : Int)) = false := by simp; omega
              clear hr2
              go_wp2_with fail
              go_roundw
              case rel => exact ⟨k + 1, f, t, by omega, by go_num, by go_num, by go_num, hr3, by omega, by omega, hbw.alloc hbw.size _⟩
              case measure => simp [intOf]; omega
    · have htt2 : t = tot := by
        have h1 := hrest.out
        rw [List.drop_eq_nil_of_le (by have := H.out.1; omega)] at h1
        rcases h1 with ⟨_, h⟩ | ⟨_, h⟩
        · simpa [units, sp] using h
        · exact h
      subst htt2
      clear hrest
      go_wp2_with fail
      go_ret2
      exact ⟨rfl, hbw⟩
end Go.Proofs.Ytbgaoehpljnolaa
