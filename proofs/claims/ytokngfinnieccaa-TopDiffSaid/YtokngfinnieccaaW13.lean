/- The archive of a law: all its blocks have been made since the law began; its methods in these words. Contract of scrivtop.begun: the program does something. -/
import Derived.Test.YtokngfinnieccaaW12
import Derived.Test.YtokngfinnieccaaW6
namespace Go.Proofs.Ytokngfinnieccaa
open Go.ChangeShapes Go.WideShapes Go.RowKit
set_option linter.unusedVariables false
set_option linter.unusedSimpArgs false
set_option maxRecDepth 100000
set_option maxHeartbeats 4000000

/-- an archive in memory, all of whose blocks lie from B on; g: its log's generation -/
def ShB (w : World) (B q : Nat) (s : Sh) (m : Option Mv) (g : Nat) : Prop := ∃ (b : Nat) (tN : List (Nat × Nat)), ShG w (fun k => B ≤ k ∧ k < w.heap.size) q s m g b tN
section
variable {w w' : World} {B q g : Nat} {s : Sh} {m : Option Mv}
theorem ShB.below (h : ShB w B q s m g) (hb : Below w.heap.size w w') : ShB w' B q s m g := by
  obtain ⟨b, tN, h⟩ := h
  have hs := hb.size
  exact ⟨b, tN, (h.mem.below hb).mono (fun k hk => ⟨hk.1, by omega⟩) (fun k hk => hk.2), h.inv⟩
theorem ShB.of {F : Nat → Prop} {b : Nat} {tN : List (Nat × Nat)} (h : ShG w' F q s m g b tN) (hF : ∀ k, F k → B ≤ k) : ShB w' B q s m g :=
  ⟨b, tN, h.mem.mono (fun k hk => ⟨hF k hk, h.mem.lt k hk⟩) (fun k hk => hk.2), h.inv⟩
theorem ShB.grown {b : Nat} {tN : List (Nat × Nat)} (hB : B ≤ w.heap.size) (h : ShG w' (grow (fun k => B ≤ k ∧ k < w.heap.size) w w') q s m g b tN) : ShB w' B q s m g :=
  ShB.of h fun k hk => by
    rcases hk with hk | hk
    · exact hk.1
    · omega
theorem ShB.hg (h : ShB w B q s m g) : Hg s.log s.text := by obtain ⟨b, tN, h⟩ := h; exact h.inv.log.hg
end
theorem sadd_B (q : Nat) (s : Sh) (m : Option Mv) (B g : Nat) (a c : Int) (d : List Pt) (A : Option Addr) (n cc : Nat) (w : World) (h : ShB w B q s m g) (hB : B ≤ w.heap.size) (hd : RdP w w.heap.size A n cc d) :
    Calls Try.prog 42 #[.pointer (some ⟨q, 0, none⟩), .agg #[.int .i64 a, .int .i64 c, .slice A n cc]] w fun e w' =>
      e = .returned (.tuple #[.int .i64 (if nextE s.log s.text.size (a, c, d) = 0 then s.log.base + (s.log.revs.length + 1 : Nat) else 0), .int .i64 (nextE s.log s.text.size (a, c, d))]) ∧ ShB w' B q (addG s m (a, c, d)) m g ∧ Below B w w' := by
  obtain ⟨b, tN, h⟩ := h
  refine (sadd_G q s m _ g b tN a c d A n cc w h hd).mono ?_
  rintro e w' ⟨rfl, h', oo⟩
  exact ⟨rfl, ShB.grown hB h', oo.below hB (fun k hk => hk.1)⟩
theorem stext_B (q : Nat) (s : Sh) (m : Option Mv) (B g : Nat) (r : Int) (k : Nat) (w : World) (h : ShB w B q s m g) (hrk : r = s.log.base + k) (hkl : k ≤ s.log.revs.length) :
    Calls Try.prog 47 #[.pointer (some ⟨q, 0, none⟩), .int .i64 r] w fun e w' => e = .returned (.tuple #[.string (txt s.log.text s.log.revs k), .int .i64 0]) ∧ Below w.heap.size w w' := by
  have hg := h.hg
  obtain ⟨b, tN, h⟩ := h
  exact stext_M q s m _ r k w h.mem hg hrk hkl
theorem snew_B (w : World) :
    Calls Try.prog 41 #[] w fun e w' => ∃ q, e = .returned (.pointer (some ⟨q, 0, none⟩)) ∧ ShB w' w.heap.size q shN none 1 ∧ Below w.heap.size w w' := by
  refine (snew_any w).mono ?_
  rintro e w' ⟨q, rfl, hq, hk, hb⟩
  exact ⟨q, rfl, ShB.of ⟨ShM.new hq hk, ShI.new⟩ (fun k hk => hk.1), hb⟩
end Go.Proofs.Ytokngfinnieccaa
namespace Go.Proofs.Ytokngfinnieccaa
open Go.ChangeShapes Go.WideShapes Go.RowKit
set_option linter.unusedVariables false
set_option linter.unusedSimpArgs false
set_option maxRecDepth 100000
set_option maxHeartbeats 4000000

theorem topput_any (s : ByteArray) (hs : s.size ≤ 140737488351232) (w : World) :
    Calls Try.prog 24 #[.string s] w fun e w' => ∃ A, e = .returned (.slice A 1 1) ∧ RdP w' w'.heap.size A 1 1 [(2, 0, s)] ∧ Below w.heap.size w w' := by
  have hr := RdP.built w #[.int .i64 2, .int .i64 0, .string s] [(2, 0, s)] 1 rfl rfl (by decide) (by simpa using hs)
  have Hr := Lib.hid hr
  clear hr
  go_enter Try.func24, Try.ntmps24
  go_wp2_with fail
  go_ret
  exact ⟨_, rfl, by simpa using Hr.out, (Below.refl _ _).alloc (Nat.le_refl _) _⟩
theorem begun_text : txt (addS shN (1, 1, [(2, 0, ⟨#[97]⟩)])).log.text (addS shN (1, 1, [(2, 0, ⟨#[97]⟩)])).log.revs 1 = ⟨#[97]⟩ := by rfl
theorem begun_any (w : World) : Calls Try.prog 15 #[] w fun e w' => e = .returned (.bool true) ∧ Below w.heap.size w w' := by
  obtain ⟨B, hB⟩ : ∃ B, w.heap.size = B := ⟨_, rfl⟩
  have HBw := Lib.hid hB
  clear hB
  go_enter Try.func15, Try.ntmps15
  go_wp2_with fail
  refine (snew_B w).mono ?_
  rintro e w1 ⟨q, rfl, hm, hb1⟩
  rw [HBw.out] at hm hb1
  have hs1 : B ≤ w1.heap.size := by have := hb1.size; have := HBw.out; omega
  have HM := Lib.hid hm
  have HW := Lib.hid hb1
  have HS := Lib.hid hs1
  clear hm hb1 hs1
  go_wp2_with fail
  refine (topput_any ⟨#[97]⟩ (by decide) w1).mono ?_
  rintro e w2 ⟨A, rfl, hr, hb2⟩
  have HW2 := Lib.hid (HW.out.trans (hb2.mono HS.out))
  have HS2 : Hid (B ≤ w2.heap.size) := Lib.hid (Nat.le_trans HS.out hb2.size)
  have hc := sadd_B q shN none B 1 1 1 [(2, 0, ⟨#[97]⟩)] A 1 1 w2 (HM.out.below hb2) HS2.out hr
  rw [show nextE shN.log shN.text.size (1, 1, [(2, 0, ⟨#[97]⟩)]) = 0 from fill_a, if_pos rfl, show shN.log.base + ((shN.log.revs.length + 1 : Nat) : Int) = 1 from rfl] at hc
  rw [show addG shN none (1, 1, [(2, 0, ⟨#[97]⟩)]) = addS shN (1, 1, [(2, 0, ⟨#[97]⟩)]) by rw [addG_none, if_pos fill_a]] at hc
  have Hc := Lib.hid hc
  clear hc hr hb2 HM HW HS
  go_wp2_with fail
  refine Hc.out.mono ?_
  rintro e w3 ⟨rfl, hm, hb3⟩
  have HW3 := Lib.hid (HW2.out.trans hb3)
  have HS3 : Hid (B ≤ w3.heap.size) := Lib.hid (Nat.le_trans HS2.out hb3.size)
  have hc := stext_B q _ none B 1 1 1 w3 hm rfl (by decide)
  rw [begun_text] at hc
  have Hc2 := Lib.hid hc
  clear hc hm hb3 Hc HW2 HS2
  go_wp2_with fail
  refine Hc2.out.mono ?_
  rintro e w4 ⟨rfl, hb4⟩
  have hw := HW3.out.trans (hb4.mono HS3.out)
  clear hb4 Hc2 HW3
  go_wp2_with fail
  go_ret
  exact ⟨rfl, HBw.out ▸ hw⟩
end Go.Proofs.Ytokngfinnieccaa
