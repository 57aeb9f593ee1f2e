/- Contract of the laws' helper plain. -/
import Derived.Test.YtchnbmdfpgkefaaCuts
import Derived.Test.YtchnbmdfpgkefaaRevs
namespace Go.Proofs.Ytchnbmdfpgkefaa
open Go.ChangeShapes Go.WideShapes Go.RowKit
set_option linter.unusedVariables false
set_option linter.unusedSimpArgs false
set_option maxRecDepth 100000
set_option maxHeartbeats 4000000

/-- the rest of a history's slice -/
theorem RdR.rest {w : World} {B n c : Nat} {A : Option Addr} {l : List Rv} (h : RdR w B A n c l) (k : Nat) (hk : k ≤ n) : RdR w B (if c = k then A else Option.map (fun x : Addr => x.add (k * 3)) A) (n - k) (c - k) (l.drop k) := by
  refine h.drop k hk _ fun hlt b o e => ?_
  have := h.caps
  rw [if_neg (by omega), e]
  simp only [Option.map_some, Addr.add]
  by_cases h0 : k * 3 = 0
  · simp [h0]
  · simp [h0]
theorem plain1_any (a b : Int) (d : List Pt) (A : Option Addr) (n c : Nat) (w : World) (h : RdP w w.heap.size A n c d) (r : Bool) (hr : hasCut d = r) :
    Calls Try.prog 60 #[.agg #[.int .i64 a, .int .i64 b, .slice A n c]] w fun e w' => e = .returned (.bool r) ∧ Below w.heap.size w w' := by
  have hc := cuts_any d A n c _ _ (h.stepA (.cells #[.int .i64 a, .int .i64 b, .slice A n c] 28)) (Nat.le_refl _)
  rw [hr] at hc
  have Hc := Lib.hid hc
  have hb0 := (Below.refl w.heap.size w).alloc (Nat.le_refl _) (.cells #[.int .i64 a, .int .i64 b, .slice A n c] 28)
  clear hc h hr
  go_enter Try.func60, Try.ntmps60
  go_wp2_with fail
  refine Hc.out.mono ?_
  rintro e w1 ⟨rfl, hb⟩
  have hw := hb0.trans (hb.mono hb0.size)
  go_wp2_with fail
  go_ret
  exact ⟨rfl, hw⟩
def plainV : Value := .func (.func 60) #[] #[]
def anyCut (l : List Rv) : Bool := l.any (fun x => hasCut x.2.2)
theorem anyCut_take (l : List Rv) (k : Nat) (h : k < l.length) : anyCut (l.take (k + 1)) = (anyCut (l.take k) || hasCut l[k].2.2) := by
  unfold anyCut
  rw [List.take_succ_eq_append_getElem h, List.any_append]
  simp only [List.any_cons, List.any_nil, Bool.or_false]
theorem anyCut_of_at (l : List Rv) (k : Nat) (h : k < l.length) (hc : hasCut l[k].2.2 = true) : anyCut l = true := by
  unfold anyCut
  rw [List.any_eq_true]
  exact ⟨l[k], List.getElem_mem h, hc⟩
theorem irev_any (l : List Rv) (A : Option Addr) (n c B : Nat) (w : World) (h : RdR w B A n c l) (hB : B ≤ w.heap.size) :
    Calls Try.prog 93 #[.slice A n c, plainV] w fun e w' => (∃ i : Int, e = .returned (.int .i64 i) ∧ decide (0 ≤ i) = anyCut l) ∧ Below w.heap.size w w' := by
  have hle := h.le
  have H := Lib.hid h
  clear h
  obtain ⟨R, hR⟩ : ∃ R, anyCut l = R := ⟨_, rfl⟩
  rw [hR]
  have HR := Lib.hid hR
  clear hR
  unfold plainV
  go_enter Try.func93, Try.ntmps93
  go_wp2_with fail
  go_loopw [5, 8] (fun x i wr => ∃ (k : Nat), k ≤ n ∧ i = .int .i64 k ∧ Hid (anyCut (l.take k) = false) ∧ Below w.heap.size w wr) (fun _ i _ => n - (intOf i).toNat)
  case atStart => exact ⟨0, by omega, rfl, Lib.hid (by simp [anyCut]), Below.refl _ _⟩
  case round =>
    obtain ⟨k, hk, rfl, hnc, hbw⟩ := hrel
    by_cases hlt : k < n
    · have hkl : k < l.length := by have := H.out.1; omega
      obtain ⟨g, o, A1, n1, c1, rfl, hg, d0, d1, d2, hrd⟩ := (H.out.below (hbw.mono hB)).at_ k hlt
      have hts := Lib.hid (anyCut_take l k hkl)
      have hof := Lib.hid (anyCut_of_at l k hkl)
      obtain ⟨p, hp⟩ : ∃ p, p = l[k] := ⟨_, rfl⟩
      rw [← hp] at hts hof d0 d1 hrd
      clear hp
      obtain ⟨ra, rb, d⟩ := p
      simp only at d0 d1 d2 hrd hts hof
      have hk0 : (0 : Int) ≤ (k : Int) := by omega
      have hkn : (k : Int) < (n : Int) := by omega
      obtain ⟨r, hr⟩ : ∃ r, hasCut d = r := ⟨_, rfl⟩
      have Hr := Lib.hid hr
      have Hrd := Lib.hid (hrd.more (show B ≤ wr.heap.size by have := hbw.size; omega))
      clear hr hrd
      go_wp2_with fail
      refine (plain1_any ra rb d A1 n1 c1 _ Hrd.out r Hr.out).mono ?_
      rintro e w2 ⟨rfl, hb2⟩
      have hw2 := hbw.trans (hb2.mono hbw.size)
      clear hb2
      cases r with
      | false =>
        go_wp2_with fail
        go_roundw
        case rel => exact ⟨k + 1, by omega, by go_num, Lib.hid (by rw [hts.out, hnc.out]; simpa using Hr.out), hw2⟩
        case measure => simp [intOf]; omega
      | true =>
        have hRt : R = true := by rw [← HR.out]; exact hof.out Hr.out
        subst hRt
        go_wp2_with fail
        go_ret
        exact ⟨⟨(k : Int), rfl, by simp⟩, hw2⟩
    · have hRf : R = false := by
        rw [← HR.out]
        have := hnc.out
        rwa [List.take_of_length_le (by have := H.out.1; omega)] at this
      subst hRf
      go_wp2_with fail
      go_ret
      exact ⟨⟨-1, rfl, by decide⟩, hbw⟩
theorem crev_any (l : List Rv) (A : Option Addr) (n c B : Nat) (w : World) (h : RdR w B A n c l) (hB : B ≤ w.heap.size) (R : Bool) (hR : anyCut l = R) :
    Calls Try.prog 59 #[.slice A n c, .func (.func 60) #[] #[]] w fun e w' => e = .returned (.bool R) ∧ Below w.heap.size w w' := by
  have hi := irev_any l A n c B w h hB
  rw [hR] at hi
  have Hi := Lib.hid hi
  clear hi h hR
  unfold plainV at *
  go_enter Try.func59, Try.ntmps59
  go_wp2_with fail
  refine Hi.out.mono ?_
  rintro e w1 ⟨⟨i, rfl, hi⟩, hb⟩
  have Hh := Lib.hid hi
  clear hi
  go_wp2_with fail
  go_ret
  exact ⟨by rw [← Hh.out]; rfl, hb⟩
theorem plain_any (l : List Rv) (A : Option Addr) (n c B : Nat) (w : World) (h : RdR w B A n c l) (hB : B ≤ w.heap.size) (R : Bool) (hR : anyCut l.tail = R) :
    Calls Try.prog 25 #[.slice A n c] w fun e w' => e = .returned (.bool (!R)) ∧ Below w.heap.size w w' := by
  have hcaps := h.caps
  by_cases h0 : n = 0
  · have hl : l = [] := List.eq_nil_of_length_eq_zero (by rw [← h.1]; exact h0)
    subst hl
    obtain rfl : R = false := hR.symm
    subst h0
    clear h hR
    go_enter Try.func25, Try.ntmps25
    go_wp2_with fail
    go_ret
    exact ⟨rfl, Below.refl _ _⟩
  · have hn1 : (1 : Int) ≤ (n : Int) := by omega
    have hnc : (n : Int) ≤ (c : Int) := by omega
    have hc1 : (1 : Int) ≤ (c : Int) := by omega
    have hn0 : ((n : Int) == 0) = false := by simp; omega
    have hr := h.rest 1 (by omega)
    have HR := Lib.hid (show anyCut (l.drop 1) = R by rw [List.drop_one]; exact hR)
    clear h hR h0
    by_cases hc : c = 1
    · subst hc
      obtain rfl : n = 1 := by omega
      rw [if_pos rfl] at hr
      have H := Lib.hid hr
      clear hr
      go_enter Try.func25, Try.ntmps25
      go_wp2_with fail
      refine (crev_any (l.drop 1) _ 0 0 _ _ H.out hB R HR.out).mono ?_
      rintro e w1 ⟨rfl, hb⟩
      go_wp2_with fail
      go_ret
      exact ⟨rfl, hb⟩
    · rw [if_neg hc] at hr
      have H := Lib.hid hr
      clear hr
      go_enter Try.func25, Try.ntmps25
      go_wp2_with fail
      refine (crev_any (l.drop 1) _ (n - 1) (c - 1) _ _ H.out hB R HR.out).mono ?_
      rintro e w1 ⟨rfl, hb⟩
      go_wp2_with fail
      go_ret
      exact ⟨rfl, hb⟩
end Go.Proofs.Ytchnbmdfpgkefaa
