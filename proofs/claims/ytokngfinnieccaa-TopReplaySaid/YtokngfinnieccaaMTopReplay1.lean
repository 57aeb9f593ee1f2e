/- Contract of scrivtop.begun: the program does something. Contract of scrivtop.at: a number of a row, 0 where there is none; and of a world's first edit there. -/
import Derived.Test.YtokngfinnieccaaV23
import Derived.Test.YtokngfinnieccaaV8
import Derived.Test.YtokngfinnieccaaV35
namespace Go.Proofs.Ytokngfinnieccaa
open Go.ChangeShapes Go.WideShapes Go.RowKit
set_option linter.unusedVariables false
set_option linter.unusedSimpArgs false
set_option maxRecDepth 100000
set_option maxHeartbeats 4000000
theorem topput_any (s : ByteArray) (hs : s.size ≤ 140737488351232) (w : World) :
 Calls Try.prog 24 #[.string s] w fun e w' => ∃ A, e = .returned (.slice A 1 1) ∧ RdP w' w'.heap.size A 1 1 [(2, 0, s)] ∧ Below w.heap.size w w' := by
 have hr := RdP.built w #[.int .i64 2, .int .i64 0, .string s] [(2, 0, s)] 1 rfl rfl (by decide) (by simpa using hs)
 have Hr := Lib.hid hr
 clear hr
 go_enter Try.func24, Try.ntmps24
 go_wp2_with fail
 go_ret
 exact ⟨_, rfl, by simpa using Hr.out, (Below.refl _ _).alloc (Nat.le_refl _) _⟩
theorem begun_text : txt (addS shN (1, 1, [(2, 0, ⟨#[97]⟩)])).log.text (addS shN (1, 1, [(2, 0, ⟨#[97]⟩)])).log.revs 1 = ⟨#[97]⟩ := by rfl
theorem begun_any (w : World) : Calls Try.prog 15 #[] w fun e w' => e = .returned (.bool true) ∧ Below w.heap.size w w' := by
 obtain ⟨B, hB⟩ : ∃ B, w.heap.size = B := ⟨_, rfl⟩
 have HBw := Lib.hid hB
 clear hB
 go_enter Try.func15, Try.ntmps15
 go_wp2_with fail
 refine (snew_B w).mono ?_
 rintro e w1 ⟨q, rfl, hm, hb1⟩
 rw [HBw.out] at hm hb1
 have hs1 : B ≤ w1.heap.size := by have := hb1.size; have := HBw.out; omega
 have HM := Lib.hid hm
 have HW := Lib.hid hb1
 have HS := Lib.hid hs1
 clear hm hb1 hs1
 go_wp2_with fail
 refine (topput_any ⟨#[97]⟩ (by decide) w1).mono ?_
 rintro e w2 ⟨A, rfl, hr, hb2⟩
 have HW2 := Lib.hid (HW.out.trans (hb2.mono HS.out))
 have HS2 : Hid (B ≤ w2.heap.size) := Lib.hid (Nat.le_trans HS.out hb2.size)
 have hc := sadd_B q shN none B 1 1 1 [(2, 0, ⟨#[97]⟩)] A 1 1 w2 (HM.out.below hb2) HS2.out hr
 rw [show nextE shN.log shN.text.size (1, 1, [(2, 0, ⟨#[97]⟩)]) = 0 from fill_a, if_pos rfl, show shN.log.base + ((shN.log.revs.length + 1 : Nat) : Int) = 1 from rfl] at hc
 rw [show addG shN none (1, 1, [(2, 0, ⟨#[97]⟩)]) = addS shN (1, 1, [(2, 0, ⟨#[97]⟩)]) by rw [addG_none, if_pos fill_a]] at hc
 have Hc := Lib.hid hc
 clear hc hr hb2 HM HW HS
 go_wp2_with fail
 refine Hc.out.mono ?_
 rintro e w3 ⟨rfl, hm, hb3⟩
 have HW3 := Lib.hid (HW2.out.trans hb3)
 have HS3 : Hid (B ≤ w3.heap.size) := Lib.hid (Nat.le_trans HS2.out hb3.size)
 have hc := stext_B q _ none B 1 1 1 w3 hm rfl (by decide)
 rw [begun_text] at hc
 have Hc2 := Lib.hid hc
 clear hc hm hb3 Hc HW2 HS2
 go_wp2_with fail
 refine Hc2.out.mono ?_
 rintro e w4 ⟨rfl, hb4⟩
 have hw := HW3.out.trans (hb4.mono HS3.out)
 clear hb4 Hc2 HW3
 go_wp2_with fail
 go_ret
 exact ⟨rfl, HBw.out ▸ hw⟩
def atL (l : List Int) (i : Nat) : Int := l.getD i 0
theorem at_any (l : List Int) (A : Option Addr) (n c B i : Nat) (w : World) (h : RdI w B A n c l) (hB : B ≤ w.heap.size) (hi : i ≤ 100) :
 Calls Try.prog 25 #[.slice A n c, .int .i64 i] w fun e w' => e = .returned (.int .i64 (atL l i)) ∧ w = w' := by
 have hn0 : (0 : Int) ≤ (n : Int) := by omega
 have hi0 : (0 : Int) ≤ (i : Int) := by omega
 have HL := Lib.hid h.1
 by_cases hlt : i < n
 · obtain ⟨b, o, rfl, hb, d0⟩ := h.at_ i hlt
   have hlt' : (i : Int) < (n : Int) := by omega
   have hbw : b < w.heap.size := Nat.lt_of_lt_of_le hb hB
   obtain ⟨x, hx⟩ : ∃ x, l[i]'(by have := h.1; omega) = x := ⟨_, rfl⟩
   rw [hx] at d0
   have ha : atL l i = x := by
    rw [atL, List.getD_eq_getElem?_getD, List.getElem?_eq_getElem (by have := h.1; omega), hx]
    rfl
   rw [ha]
   clear ha hx h
   go_enter Try.func25, Try.ntmps25
   go_wp2_with fail
   go_ret
   exact ⟨rfl, rfl⟩
 · have hge : (n : Int) ≤ (i : Int) := by omega
   have ha : atL l i = 0 := by
    rw [atL, List.getD_eq_getElem?_getD, List.getElem?_eq_none (by have := HL.out; omega)]
    rfl
   rw [ha]
   clear ha h
   go_enter Try.func25, Try.ntmps25
   go_wp2_with fail
   go_ret
   exact ⟨rfl, rfl⟩
end Go.Proofs.Ytokngfinnieccaa
