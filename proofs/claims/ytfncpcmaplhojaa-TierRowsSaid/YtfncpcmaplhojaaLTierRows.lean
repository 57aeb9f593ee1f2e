/- TierRows: the walk. Each level has half as many blocks as the one below, and each block makes the text behind it. -/
import Derived.Test.YtfncpcmaplhojaaTierKit
import Derived.Test.YtfncpcmaplhojaaFirst
import Derived.Test.YtfncpcmaplhojaaCloneR
import Derived.Test.YtfncpcmaplhojaaOpenRevs
import Derived.Test.YtfncpcmaplhojaaWithin
import Derived.Test.YtfncpcmaplhojaaApply
namespace Go.Proofs.Ytfncpcmaplhojaa
open Go.ChangeShapes Go.WideShapes Go.RowKit
set_option linter.unusedVariables false
set_option linter.unusedSimpArgs false
set_option maxRecDepth 100000
set_option maxHeartbeats 4000000


theorem tierRows_err (base : ByteArray) (l : List Rv) (A : Option Addr) (n c : Nat) (i k : Int) (hs : base.size ≤ 140737488351232) (w : World) (h : RdR w w.heap.size A n c l) (h1 : txE base l ≠ 0) :
    Calls Try.prog 3 #[.string base, .slice A n c, .int .i64 i, .int .i64 k] w fun e w' => e = .returned (.bool true) ∧ Below w.heap.size w w' := by
  have hbw0 : Below w.heap.size w w := Below.refl _ _
  have Hl := Lib.hid h
  clear h
  have hne : (txE base l != 0) = true := by simpa using h1
  have H1 := Lib.hid h1
  clear h1
  go_enter Try.func3, Try.ntmps3
  go_wp2_with fail
  refine (first_any ⟨#[97]⟩ (by decide) w).mono ?_
  rintro e w1 ⟨Af, rfl, hrf, hb1⟩
  have hbw1 := hbw0.trans (hb1.mono hbw0.size)
  have Hl1 := Lib.hid (RdR.step Hl.out hb1)
  clear Hl
  have Hl := Hl1
  clear Hl1
  clear hb1
  have Hf := Lib.hid hrf
  clear hrf
  go_wp2_with fail
  have hc := all_any 1 w1
  rw [show allL 1 = [(1, 1, emp)] from rfl] at hc
  refine (hc).mono ?_
  rintro e w2 ⟨Ak0, ck0, rfl, hrk0, hb2⟩
  have hbw2 := hbw1.trans (hb2.mono hbw1.size)
  have Hl2 := Lib.hid (RdR.step Hl.out hb2)
  clear Hl
  have Hl := Hl2
  clear Hl2
  have Hf2 := Lib.hid (RdP.step Hf.out hb2)
  clear Hf
  have Hf := Hf2
  clear Hf2
  clear hb2
  clear hc
  have Hk0 := Lib.hid hrk0
  clear hrk0
  go_wp2_with fail
  have hrh : RdR (w2.alloc (.cells #[.int .i64 1, .int .i64 1, .slice Af 1 1, .int .i64 1, .int .i64 2, .slice Ak0 1 ck0] 29)) (w2.alloc (.cells #[.int .i64 1, .int .i64 1, .slice Af 1 1, .int .i64 1, .int .i64 2, .slice Ak0 1 ck0] 29)).heap.size (some ⟨w2.heap.size, 0, none⟩) 2 2 [(1, 1, [(2, 0, ⟨#[97]⟩)]), (1, 2, [(1, 1, emp)])] := by
    have q := RdR.built2 w2 1 1 1 2 Af Ak0 1 1 1 ck0 [(2, 0, ⟨#[97]⟩)] [(1, 1, emp)] Hf.out Hk0.out
    simpa only [World.size_alloc] using q
  have hbw3 := hbw2.alloc hbw2.size (.cells #[.int .i64 1, .int .i64 1, .slice Af 1 1, .int .i64 1, .int .i64 2, .slice Ak0 1 ck0] 29)
  have Hl3 := Lib.hid (RdR.stepA Hl.out (.cells #[.int .i64 1, .int .i64 1, .slice Af 1 1, .int .i64 1, .int .i64 2, .slice Ak0 1 ck0] 29))
  clear Hl
  have Hl := Hl3
  clear Hl3
  have Hf3 := Lib.hid (RdP.stepA Hf.out (.cells #[.int .i64 1, .int .i64 1, .slice Af 1 1, .int .i64 1, .int .i64 2, .slice Ak0 1 ck0] 29))
  clear Hf
  have Hf := Hf3
  clear Hf3
  have Hk03 := Lib.hid (RdP.stepA Hk0.out (.cells #[.int .i64 1, .int .i64 1, .slice Af 1 1, .int .i64 1, .int .i64 2, .slice Ak0 1 ck0] 29))
  clear Hk0
  have Hk0 := Hk03
  clear Hk03
  have Hh := Lib.hid hrh
  clear hrh
  clear Hf
  clear Hk0
  go_wp2_with fail
  have hc := build_rd ⟨#[]⟩ [(1, 1, [(2, 0, ⟨#[97]⟩)]), (1, 2, [(1, 1, emp)])] (some ⟨w2.heap.size, 0, none⟩) 2 2 (w2.alloc (.cells #[.int .i64 1, .int .i64 1, .slice Af 1 1, .int .i64 1, .int .i64 2, .slice Ak0 1 ck0] 29)) Hh.out (by decide) 2 (by decide)
  refine (hc).mono ?_
  rintro e w4 ⟨At0, ct0, rst0, ust0, rfl, hrt0, hit0, hb4⟩
  have hbw4 := hbw3.trans (hb4.mono hbw3.size)
  have Hl4 := Lib.hid (RdR.step Hl.out hb4)
  clear Hl
  have Hl := Hl4
  clear Hl4
  have Hh4 := Lib.hid (RdR.step Hh.out hb4)
  clear Hh
  have Hh := Hh4
  clear Hh4
  clear hb4
  clear hc hit0
  have Ht0 := Lib.hid hrt0
  clear hrt0
  clear Hh
  obtain ⟨g0, g1, d1, A1_, n1_, c1_, e0, -, p0, q0, r0, q1, -, -⟩ := Ht0.out.look 0 0 [[(2, 0, ⟨#[97]⟩)], [(1, 1, emp)]] [(2, 0, ⟨#[97]⟩)] (by decide) (by decide)
  obtain ⟨g0', g2, d2, A2_, n2_, c2_, e0', -, -, q0', r0', q1', -, hp2⟩ := Ht0.out.look 1 0 [[(2, 0, ⟨#[97]⟩)]] [(2, 0, ⟨#[97]⟩)] (by decide) (by decide)
  have e0b : some ⟨g0, 0, none⟩ = some (⟨g0', 0, none⟩ : Addr) := e0.symm.trans e0'
  injection e0b with e0b
  injection e0b with e0b
  subst e0b
  subst e0
  clear q1 e0'
  have Hp2 := Lib.hid hp2
  clear hp2 Ht0
  simp only [List.length_cons, List.length_nil, Nat.zero_add] at q0 q0'
  have KeepS : Hid (∀ w', Below w4.heap.size w4 w' → (Below w4.heap.size w4 w' ∧ w'.cell? ⟨g0, 0, none⟩ = some (.slice (some ⟨g1, 0, none⟩) 2 d1) ∧ w'.cell? ⟨g0, 1, none⟩ = some (.slice (some ⟨g2, 0, none⟩) 1 d2) ∧ w'.cell? ⟨g2, 0, none⟩ = some (.slice A2_ n2_ c2_) ∧ g0 < w'.heap.size ∧ g2 < w'.heap.size)) := Lib.hid fun w' hb => by
    have hsz := hb.size
    exact ⟨hb, (hb.cell (p := ⟨g0, 0, none⟩) p0).trans q0, (hb.cell (p := ⟨g0, 1, none⟩) p0).trans q0', (hb.cell (p := ⟨g2, 0, none⟩) r0').trans q1', by omega, by omega⟩
  have GP : Hid (∀ w', (Below w4.heap.size w4 w' ∧ w'.cell? ⟨g0, 0, none⟩ = some (.slice (some ⟨g1, 0, none⟩) 2 d1) ∧ w'.cell? ⟨g0, 1, none⟩ = some (.slice (some ⟨g2, 0, none⟩) 1 d2) ∧ w'.cell? ⟨g2, 0, none⟩ = some (.slice A2_ n2_ c2_) ∧ g0 < w'.heap.size ∧ g2 < w'.heap.size) → Calls Try.prog 19 #[.string ⟨#[97]⟩] w' fun e w'' => ∃ A, e = .returned (.slice A 1 1) ∧ RdP w'' w''.heap.size A 1 1 [(2, 0, ⟨#[97]⟩)] ∧ (Below w4.heap.size w4 w'' ∧ w''.cell? ⟨g0, 0, none⟩ = some (.slice (some ⟨g1, 0, none⟩) 2 d1) ∧ w''.cell? ⟨g0, 1, none⟩ = some (.slice (some ⟨g2, 0, none⟩) 1 d2) ∧ w''.cell? ⟨g2, 0, none⟩ = some (.slice A2_ n2_ c2_) ∧ g0 < w''.heap.size ∧ g2 < w''.heap.size)) := Lib.hid fun w' hS => by
    refine (put_any ⟨#[97]⟩ (by decide) w').mono ?_
    rintro e w'' ⟨A, rfl, hr, hb⟩
    exact ⟨A, rfl, hr, KeepS.out _ (hS.1.trans (hb.mono hS.1.size))⟩
  have GS : Hid (∀ w' A, RdP w' w'.heap.size A 1 1 [(2, 0, ⟨#[97]⟩)] → (Below w4.heap.size w4 w' ∧ w'.cell? ⟨g0, 0, none⟩ = some (.slice (some ⟨g1, 0, none⟩) 2 d1) ∧ w'.cell? ⟨g0, 1, none⟩ = some (.slice (some ⟨g2, 0, none⟩) 1 d2) ∧ w'.cell? ⟨g2, 0, none⟩ = some (.slice A2_ n2_ c2_) ∧ g0 < w'.heap.size ∧ g2 < w'.heap.size) → Calls Try.prog 18 #[.slice A2_ n2_ c2_, .slice A 1 1] w' fun e w'' => e = .returned (.bool true) ∧ (Below w4.heap.size w4 w'' ∧ w''.cell? ⟨g0, 0, none⟩ = some (.slice (some ⟨g1, 0, none⟩) 2 d1) ∧ w''.cell? ⟨g0, 1, none⟩ = some (.slice (some ⟨g2, 0, none⟩) 1 d2) ∧ w''.cell? ⟨g2, 0, none⟩ = some (.slice A2_ n2_ c2_) ∧ g0 < w''.heap.size ∧ g2 < w''.heap.size)) := Lib.hid fun w' A hr hS => by
    refine (same_true [(2, 0, ⟨#[97]⟩)] [(2, 0, ⟨#[97]⟩)] A2_ A n2_ 1 c2_ 1 _ _ _ ((Hp2.out.below hS.1).more hS.1.size) hr rfl).mono ?_
    rintro e w'' ⟨rfl, hb⟩
    exact ⟨rfl, KeepS.out _ (hS.1.trans (hb.mono hS.1.size))⟩
  have hS0 := KeepS.out _ (Below.refl _ _)
  clear q0 q0' q1' p0 r0 r0'
  go_wp2_with fail
  go_region_held3 (fun w' => (Below w4.heap.size w4 w' ∧ w'.cell? ⟨g0, 0, none⟩ = some (.slice (some ⟨g1, 0, none⟩) 2 d1) ∧ w'.cell? ⟨g0, 1, none⟩ = some (.slice (some ⟨g2, 0, none⟩) 1 d2) ∧ w'.cell? ⟨g2, 0, none⟩ = some (.slice A2_ n2_ c2_) ∧ g0 < w'.heap.size ∧ g2 < w'.heap.size)) (first | with_reducible assumption | exact KeepS.out _ (Below.drew (Below.refl _ _)) | exact KeepS.out _ (by assumption) | exact KeepS.out _ (Below.drew (by assumption)) | (go_split_ands; exact KeepS.out _ (by assumption)))
    ((first | (go_at_call 19; with_reducible refine (GP.out _ (by assumption)).mono ?_; rintro e x1 ⟨Ap, rfl, hrp, hS1⟩) | (go_at_call 18; with_reducible refine (GS.out _ _ (by assumption) (by assumption)).mono ?_; rintro e x2 ⟨rfl, hS2⟩)))
  have hbx := hS2.1
  clear KeepS GP GS hS0 hS1 hS2 hrp Hp2
  have hbw5 := hbw4.trans (hbx.mono hbw4.size)
  have Hl5 := Lib.hid (RdR.step Hl.out hbx)
  clear Hl
  have Hl := Hl5
  clear Hl5
  clear hbx
  go_wp2_with fail
  refine (build_err base l A n c _ _ Hl.out (Nat.le_refl _) (by omega) H1.out).mono ?_
  rintro e w6 ⟨rfl, hb6⟩
  have hbw6 := hbw5.trans (hb6.mono hbw5.size)
  have Hl6 := Lib.hid (RdR.step Hl.out hb6)
  clear Hl
  have Hl := Hl6
  clear Hl6
  clear hb6
  go_wp2_with fail
  go_ret
  exact ⟨rfl, hbw6⟩
theorem tierRows_nil (base : ByteArray) (A : Option Addr) (n c : Nat) (i k : Int) (hs : base.size ≤ 140737488351232) (w : World) (h : RdR w w.heap.size A n c []) (h1 : txE base [] = 0) :
    Calls Try.prog 3 #[.string base, .slice A n c, .int .i64 i, .int .i64 k] w fun e w' => e = .returned (.bool true) ∧ Below w.heap.size w w' := by
  have hbw0 : Below w.heap.size w w := Below.refl _ _
  have Hl := Lib.hid h
  clear h
  have hn : n = 0 := Hl.out.1
  subst hn
  have H1 := Lib.hid h1
  clear h1
  go_enter Try.func3, Try.ntmps3
  go_wp2_with fail
  refine (first_any ⟨#[97]⟩ (by decide) w).mono ?_
  rintro e w1 ⟨Af, rfl, hrf, hb1⟩
  have hbw1 := hbw0.trans (hb1.mono hbw0.size)
  have Hl1 := Lib.hid (RdR.step Hl.out hb1)
  clear Hl
  have Hl := Hl1
  clear Hl1
  clear hb1
  have Hf := Lib.hid hrf
  clear hrf
  go_wp2_with fail
  have hc := all_any 1 w1
  rw [show allL 1 = [(1, 1, emp)] from rfl] at hc
  refine (hc).mono ?_
  rintro e w2 ⟨Ak0, ck0, rfl, hrk0, hb2⟩
  have hbw2 := hbw1.trans (hb2.mono hbw1.size)
  have Hl2 := Lib.hid (RdR.step Hl.out hb2)
  clear Hl
  have Hl := Hl2
  clear Hl2
  have Hf2 := Lib.hid (RdP.step Hf.out hb2)
  clear Hf
  have Hf := Hf2
  clear Hf2
  clear hb2
  clear hc
  have Hk0 := Lib.hid hrk0
  clear hrk0
  go_wp2_with fail
  have hrh : RdR (w2.alloc (.cells #[.int .i64 1, .int .i64 1, .slice Af 1 1, .int .i64 1, .int .i64 2, .slice Ak0 1 ck0] 29)) (w2.alloc (.cells #[.int .i64 1, .int .i64 1, .slice Af 1 1, .int .i64 1, .int .i64 2, .slice Ak0 1 ck0] 29)).heap.size (some ⟨w2.heap.size, 0, none⟩) 2 2 [(1, 1, [(2, 0, ⟨#[97]⟩)]), (1, 2, [(1, 1, emp)])] := by
    have q := RdR.built2 w2 1 1 1 2 Af Ak0 1 1 1 ck0 [(2, 0, ⟨#[97]⟩)] [(1, 1, emp)] Hf.out Hk0.out
    simpa only [World.size_alloc] using q
  have hbw3 := hbw2.alloc hbw2.size (.cells #[.int .i64 1, .int .i64 1, .slice Af 1 1, .int .i64 1, .int .i64 2, .slice Ak0 1 ck0] 29)
  have Hl3 := Lib.hid (RdR.stepA Hl.out (.cells #[.int .i64 1, .int .i64 1, .slice Af 1 1, .int .i64 1, .int .i64 2, .slice Ak0 1 ck0] 29))
  clear Hl
  have Hl := Hl3
  clear Hl3
  have Hf3 := Lib.hid (RdP.stepA Hf.out (.cells #[.int .i64 1, .int .i64 1, .slice Af 1 1, .int .i64 1, .int .i64 2, .slice Ak0 1 ck0] 29))
  clear Hf
  have Hf := Hf3
  clear Hf3
  have Hk03 := Lib.hid (RdP.stepA Hk0.out (.cells #[.int .i64 1, .int .i64 1, .slice Af 1 1, .int .i64 1, .int .i64 2, .slice Ak0 1 ck0] 29))
  clear Hk0
  have Hk0 := Hk03
  clear Hk03
  have Hh := Lib.hid hrh
  clear hrh
  clear Hf
  clear Hk0
  go_wp2_with fail
  have hc := build_rd ⟨#[]⟩ [(1, 1, [(2, 0, ⟨#[97]⟩)]), (1, 2, [(1, 1, emp)])] (some ⟨w2.heap.size, 0, none⟩) 2 2 (w2.alloc (.cells #[.int .i64 1, .int .i64 1, .slice Af 1 1, .int .i64 1, .int .i64 2, .slice Ak0 1 ck0] 29)) Hh.out (by decide) 2 (by decide)
  refine (hc).mono ?_
  rintro e w4 ⟨At0, ct0, rst0, ust0, rfl, hrt0, hit0, hb4⟩
  have hbw4 := hbw3.trans (hb4.mono hbw3.size)
  have Hl4 := Lib.hid (RdR.step Hl.out hb4)
  clear Hl
  have Hl := Hl4
  clear Hl4
  have Hh4 := Lib.hid (RdR.step Hh.out hb4)
  clear Hh
  have Hh := Hh4
  clear Hh4
  clear hb4
  clear hc hit0
  have Ht0 := Lib.hid hrt0
  clear hrt0
  clear Hh
  obtain ⟨g0, g1, d1, A1_, n1_, c1_, e0, -, p0, q0, r0, q1, -, -⟩ := Ht0.out.look 0 0 [[(2, 0, ⟨#[97]⟩)], [(1, 1, emp)]] [(2, 0, ⟨#[97]⟩)] (by decide) (by decide)
  obtain ⟨g0', g2, d2, A2_, n2_, c2_, e0', -, -, q0', r0', q1', -, hp2⟩ := Ht0.out.look 1 0 [[(2, 0, ⟨#[97]⟩)]] [(2, 0, ⟨#[97]⟩)] (by decide) (by decide)
  have e0b : some ⟨g0, 0, none⟩ = some (⟨g0', 0, none⟩ : Addr) := e0.symm.trans e0'
  injection e0b with e0b
  injection e0b with e0b
  subst e0b
  subst e0
  clear q1 e0'
  have Hp2 := Lib.hid hp2
  clear hp2 Ht0
  simp only [List.length_cons, List.length_nil, Nat.zero_add] at q0 q0'
  have KeepS : Hid (∀ w', Below w4.heap.size w4 w' → (Below w4.heap.size w4 w' ∧ w'.cell? ⟨g0, 0, none⟩ = some (.slice (some ⟨g1, 0, none⟩) 2 d1) ∧ w'.cell? ⟨g0, 1, none⟩ = some (.slice (some ⟨g2, 0, none⟩) 1 d2) ∧ w'.cell? ⟨g2, 0, none⟩ = some (.slice A2_ n2_ c2_) ∧ g0 < w'.heap.size ∧ g2 < w'.heap.size)) := Lib.hid fun w' hb => by
    have hsz := hb.size
    exact ⟨hb, (hb.cell (p := ⟨g0, 0, none⟩) p0).trans q0, (hb.cell (p := ⟨g0, 1, none⟩) p0).trans q0', (hb.cell (p := ⟨g2, 0, none⟩) r0').trans q1', by omega, by omega⟩
  have GP : Hid (∀ w', (Below w4.heap.size w4 w' ∧ w'.cell? ⟨g0, 0, none⟩ = some (.slice (some ⟨g1, 0, none⟩) 2 d1) ∧ w'.cell? ⟨g0, 1, none⟩ = some (.slice (some ⟨g2, 0, none⟩) 1 d2) ∧ w'.cell? ⟨g2, 0, none⟩ = some (.slice A2_ n2_ c2_) ∧ g0 < w'.heap.size ∧ g2 < w'.heap.size) → Calls Try.prog 19 #[.string ⟨#[97]⟩] w' fun e w'' => ∃ A, e = .returned (.slice A 1 1) ∧ RdP w'' w''.heap.size A 1 1 [(2, 0, ⟨#[97]⟩)] ∧ (Below w4.heap.size w4 w'' ∧ w''.cell? ⟨g0, 0, none⟩ = some (.slice (some ⟨g1, 0, none⟩) 2 d1) ∧ w''.cell? ⟨g0, 1, none⟩ = some (.slice (some ⟨g2, 0, none⟩) 1 d2) ∧ w''.cell? ⟨g2, 0, none⟩ = some (.slice A2_ n2_ c2_) ∧ g0 < w''.heap.size ∧ g2 < w''.heap.size)) := Lib.hid fun w' hS => by
    refine (put_any ⟨#[97]⟩ (by decide) w').mono ?_
    rintro e w'' ⟨A, rfl, hr, hb⟩
    exact ⟨A, rfl, hr, KeepS.out _ (hS.1.trans (hb.mono hS.1.size))⟩
  have GS : Hid (∀ w' A, RdP w' w'.heap.size A 1 1 [(2, 0, ⟨#[97]⟩)] → (Below w4.heap.size w4 w' ∧ w'.cell? ⟨g0, 0, none⟩ = some (.slice (some ⟨g1, 0, none⟩) 2 d1) ∧ w'.cell? ⟨g0, 1, none⟩ = some (.slice (some ⟨g2, 0, none⟩) 1 d2) ∧ w'.cell? ⟨g2, 0, none⟩ = some (.slice A2_ n2_ c2_) ∧ g0 < w'.heap.size ∧ g2 < w'.heap.size) → Calls Try.prog 18 #[.slice A2_ n2_ c2_, .slice A 1 1] w' fun e w'' => e = .returned (.bool true) ∧ (Below w4.heap.size w4 w'' ∧ w''.cell? ⟨g0, 0, none⟩ = some (.slice (some ⟨g1, 0, none⟩) 2 d1) ∧ w''.cell? ⟨g0, 1, none⟩ = some (.slice (some ⟨g2, 0, none⟩) 1 d2) ∧ w''.cell? ⟨g2, 0, none⟩ = some (.slice A2_ n2_ c2_) ∧ g0 < w''.heap.size ∧ g2 < w''.heap.size)) := Lib.hid fun w' A hr hS => by
    refine (same_true [(2, 0, ⟨#[97]⟩)] [(2, 0, ⟨#[97]⟩)] A2_ A n2_ 1 c2_ 1 _ _ _ ((Hp2.out.below hS.1).more hS.1.size) hr rfl).mono ?_
    rintro e w'' ⟨rfl, hb⟩
    exact ⟨rfl, KeepS.out _ (hS.1.trans (hb.mono hS.1.size))⟩
  have hS0 := KeepS.out _ (Below.refl _ _)
  clear q0 q0' q1' p0 r0 r0'
  go_wp2_with fail
  go_region_held3 (fun w' => (Below w4.heap.size w4 w' ∧ w'.cell? ⟨g0, 0, none⟩ = some (.slice (some ⟨g1, 0, none⟩) 2 d1) ∧ w'.cell? ⟨g0, 1, none⟩ = some (.slice (some ⟨g2, 0, none⟩) 1 d2) ∧ w'.cell? ⟨g2, 0, none⟩ = some (.slice A2_ n2_ c2_) ∧ g0 < w'.heap.size ∧ g2 < w'.heap.size)) (first | with_reducible assumption | exact KeepS.out _ (Below.drew (Below.refl _ _)) | exact KeepS.out _ (by assumption) | exact KeepS.out _ (Below.drew (by assumption)) | (go_split_ands; exact KeepS.out _ (by assumption)))
    ((first | (go_at_call 19; with_reducible refine (GP.out _ (by assumption)).mono ?_; rintro e x1 ⟨Ap, rfl, hrp, hS1⟩) | (go_at_call 18; with_reducible refine (GS.out _ _ (by assumption) (by assumption)).mono ?_; rintro e x2 ⟨rfl, hS2⟩)))
  have hbx := hS2.1
  clear KeepS GP GS hS0 hS1 hS2 hrp Hp2
  have hbw5 := hbw4.trans (hbx.mono hbw4.size)
  have Hl5 := Lib.hid (RdR.step Hl.out hbx)
  clear Hl
  have Hl := Hl5
  clear Hl5
  clear hbx
  go_wp2_with fail
  have hc := build_rd base [] A 0 c x2 Hl.out H1.out 0 rfl
  refine (hc).mono ?_
  rintro e w6 ⟨At, ct, rst, ust, rfl, hrt, hit, hb6⟩
  have hbw6 := hbw5.trans (hb6.mono hbw5.size)
  have Hl6 := Lib.hid (RdR.step Hl.out hb6)
  clear Hl
  have Hl := Hl6
  clear Hl6
  clear hb6
  clear hc hit
  have Ht := Lib.hid hrt
  clear hrt
  go_wp2_with fail
  go_ret
  exact ⟨rfl, hbw6⟩
theorem tierRows_ok (base : ByteArray) (l : List Rv) (A : Option Addr) (n c : Nat) (i k : Int) (hs : base.size ≤ 140737488351232) (w : World) (h : RdR w w.heap.size A n c l) (h1 : txE base l = 0) (hne : l ≠ []) :
    Calls Try.prog 3 #[.string base, .slice A n c, .int .i64 i, .int .i64 k] w fun e w' => e = .returned (.bool true) ∧ Below w.heap.size w w' := by
  have hbw0 : Below w.heap.size w w := Below.refl _ _
  have Hl := Lib.hid h
  clear h
  have hn : n = l.length := Hl.out.1
  have Hn := Lib.hid hn
  have hn64 : (n : Int) ≤ 64 := by have := (txE_parts h1).2.1; omega
  have H1 := Lib.hid h1
  obtain ⟨m, hm⟩ : ∃ m, (tiersL l).length = m := ⟨_, rfl⟩
  have Hm := Lib.hid hm
  have hm7 : m ≤ 7 := by rw [← hm]; exact (tiersL_len (txE_parts h1).2.1).2
  have hm0 : 0 < m := by rw [← hm]; exact tiersL_pos hne
  have hlen0 : l.length / 2 ^ m = 0 := by rw [← hm]; exact (tiersL_len (txE_parts h1).2.1).1
  have Hlen0 := Lib.hid hlen0
  have hmz : ((m : Int) == 0) = false := by simp; omega
  clear h1 hn hm hne hlen0
  go_enter Try.func3, Try.ntmps3
  go_wp2_with fail
  refine (first_any ⟨#[97]⟩ (by decide) w).mono ?_
  rintro e w1 ⟨Af, rfl, hrf, hb1⟩
  have hbw1 := hbw0.trans (hb1.mono hbw0.size)
  have Hl1 := Lib.hid (RdR.step Hl.out hb1)
  clear Hl
  have Hl := Hl1
  clear Hl1
  clear hb1
  have Hf := Lib.hid hrf
  clear hrf
  go_wp2_with fail
  have hc := all_any 1 w1
  rw [show allL 1 = [(1, 1, emp)] from rfl] at hc
  refine (hc).mono ?_
  rintro e w2 ⟨Ak0, ck0, rfl, hrk0, hb2⟩
  have hbw2 := hbw1.trans (hb2.mono hbw1.size)
  have Hl2 := Lib.hid (RdR.step Hl.out hb2)
  clear Hl
  have Hl := Hl2
  clear Hl2
  have Hf2 := Lib.hid (RdP.step Hf.out hb2)
  clear Hf
  have Hf := Hf2
  clear Hf2
  clear hb2
  clear hc
  have Hk0 := Lib.hid hrk0
  clear hrk0
  go_wp2_with fail
  have hrh : RdR (w2.alloc (.cells #[.int .i64 1, .int .i64 1, .slice Af 1 1, .int .i64 1, .int .i64 2, .slice Ak0 1 ck0] 29)) (w2.alloc (.cells #[.int .i64 1, .int .i64 1, .slice Af 1 1, .int .i64 1, .int .i64 2, .slice Ak0 1 ck0] 29)).heap.size (some ⟨w2.heap.size, 0, none⟩) 2 2 [(1, 1, [(2, 0, ⟨#[97]⟩)]), (1, 2, [(1, 1, emp)])] := by
    have q := RdR.built2 w2 1 1 1 2 Af Ak0 1 1 1 ck0 [(2, 0, ⟨#[97]⟩)] [(1, 1, emp)] Hf.out Hk0.out
    simpa only [World.size_alloc] using q
  have hbw3 := hbw2.alloc hbw2.size (.cells #[.int .i64 1, .int .i64 1, .slice Af 1 1, .int .i64 1, .int .i64 2, .slice Ak0 1 ck0] 29)
  have Hl3 := Lib.hid (RdR.stepA Hl.out (.cells #[.int .i64 1, .int .i64 1, .slice Af 1 1, .int .i64 1, .int .i64 2, .slice Ak0 1 ck0] 29))
  clear Hl
  have Hl := Hl3
  clear Hl3
  have Hf3 := Lib.hid (RdP.stepA Hf.out (.cells #[.int .i64 1, .int .i64 1, .slice Af 1 1, .int .i64 1, .int .i64 2, .slice Ak0 1 ck0] 29))
  clear Hf
  have Hf := Hf3
  clear Hf3
  have Hk03 := Lib.hid (RdP.stepA Hk0.out (.cells #[.int .i64 1, .int .i64 1, .slice Af 1 1, .int .i64 1, .int .i64 2, .slice Ak0 1 ck0] 29))
  clear Hk0
  have Hk0 := Hk03
  clear Hk03
  have Hh := Lib.hid hrh
  clear hrh
  clear Hf
  clear Hk0
  go_wp2_with fail
  have hc := build_rd ⟨#[]⟩ [(1, 1, [(2, 0, ⟨#[97]⟩)]), (1, 2, [(1, 1, emp)])] (some ⟨w2.heap.size, 0, none⟩) 2 2 (w2.alloc (.cells #[.int .i64 1, .int .i64 1, .slice Af 1 1, .int .i64 1, .int .i64 2, .slice Ak0 1 ck0] 29)) Hh.out (by decide) 2 (by decide)
  refine (hc).mono ?_
  rintro e w4 ⟨At0, ct0, rst0, ust0, rfl, hrt0, hit0, hb4⟩
  have hbw4 := hbw3.trans (hb4.mono hbw3.size)
  have Hl4 := Lib.hid (RdR.step Hl.out hb4)
  clear Hl
  have Hl := Hl4
  clear Hl4
  have Hh4 := Lib.hid (RdR.step Hh.out hb4)
  clear Hh
  have Hh := Hh4
  clear Hh4
  clear hb4
  clear hc hit0
  have Ht0 := Lib.hid hrt0
  clear hrt0
  clear Hh
  obtain ⟨g0, g1, d1, A1_, n1_, c1_, e0, -, p0, q0, r0, q1, -, -⟩ := Ht0.out.look 0 0 [[(2, 0, ⟨#[97]⟩)], [(1, 1, emp)]] [(2, 0, ⟨#[97]⟩)] (by decide) (by decide)
  obtain ⟨g0', g2, d2, A2_, n2_, c2_, e0', -, -, q0', r0', q1', -, hp2⟩ := Ht0.out.look 1 0 [[(2, 0, ⟨#[97]⟩)]] [(2, 0, ⟨#[97]⟩)] (by decide) (by decide)
  have e0b : some ⟨g0, 0, none⟩ = some (⟨g0', 0, none⟩ : Addr) := e0.symm.trans e0'
  injection e0b with e0b
  injection e0b with e0b
  subst e0b
  subst e0
  clear q1 e0'
  have Hp2 := Lib.hid hp2
  clear hp2 Ht0
  simp only [List.length_cons, List.length_nil, Nat.zero_add] at q0 q0'
  have KeepS : Hid (∀ w', Below w4.heap.size w4 w' → (Below w4.heap.size w4 w' ∧ w'.cell? ⟨g0, 0, none⟩ = some (.slice (some ⟨g1, 0, none⟩) 2 d1) ∧ w'.cell? ⟨g0, 1, none⟩ = some (.slice (some ⟨g2, 0, none⟩) 1 d2) ∧ w'.cell? ⟨g2, 0, none⟩ = some (.slice A2_ n2_ c2_) ∧ g0 < w'.heap.size ∧ g2 < w'.heap.size)) := Lib.hid fun w' hb => by
    have hsz := hb.size
    exact ⟨hb, (hb.cell (p := ⟨g0, 0, none⟩) p0).trans q0, (hb.cell (p := ⟨g0, 1, none⟩) p0).trans q0', (hb.cell (p := ⟨g2, 0, none⟩) r0').trans q1', by omega, by omega⟩
  have GP : Hid (∀ w', (Below w4.heap.size w4 w' ∧ w'.cell? ⟨g0, 0, none⟩ = some (.slice (some ⟨g1, 0, none⟩) 2 d1) ∧ w'.cell? ⟨g0, 1, none⟩ = some (.slice (some ⟨g2, 0, none⟩) 1 d2) ∧ w'.cell? ⟨g2, 0, none⟩ = some (.slice A2_ n2_ c2_) ∧ g0 < w'.heap.size ∧ g2 < w'.heap.size) → Calls Try.prog 19 #[.string ⟨#[97]⟩] w' fun e w'' => ∃ A, e = .returned (.slice A 1 1) ∧ RdP w'' w''.heap.size A 1 1 [(2, 0, ⟨#[97]⟩)] ∧ (Below w4.heap.size w4 w'' ∧ w''.cell? ⟨g0, 0, none⟩ = some (.slice (some ⟨g1, 0, none⟩) 2 d1) ∧ w''.cell? ⟨g0, 1, none⟩ = some (.slice (some ⟨g2, 0, none⟩) 1 d2) ∧ w''.cell? ⟨g2, 0, none⟩ = some (.slice A2_ n2_ c2_) ∧ g0 < w''.heap.size ∧ g2 < w''.heap.size)) := Lib.hid fun w' hS => by
    refine (put_any ⟨#[97]⟩ (by decide) w').mono ?_
    rintro e w'' ⟨A, rfl, hr, hb⟩
    exact ⟨A, rfl, hr, KeepS.out _ (hS.1.trans (hb.mono hS.1.size))⟩
  have GS : Hid (∀ w' A, RdP w' w'.heap.size A 1 1 [(2, 0, ⟨#[97]⟩)] → (Below w4.heap.size w4 w' ∧ w'.cell? ⟨g0, 0, none⟩ = some (.slice (some ⟨g1, 0, none⟩) 2 d1) ∧ w'.cell? ⟨g0, 1, none⟩ = some (.slice (some ⟨g2, 0, none⟩) 1 d2) ∧ w'.cell? ⟨g2, 0, none⟩ = some (.slice A2_ n2_ c2_) ∧ g0 < w'.heap.size ∧ g2 < w'.heap.size) → Calls Try.prog 18 #[.slice A2_ n2_ c2_, .slice A 1 1] w' fun e w'' => e = .returned (.bool true) ∧ (Below w4.heap.size w4 w'' ∧ w''.cell? ⟨g0, 0, none⟩ = some (.slice (some ⟨g1, 0, none⟩) 2 d1) ∧ w''.cell? ⟨g0, 1, none⟩ = some (.slice (some ⟨g2, 0, none⟩) 1 d2) ∧ w''.cell? ⟨g2, 0, none⟩ = some (.slice A2_ n2_ c2_) ∧ g0 < w''.heap.size ∧ g2 < w''.heap.size)) := Lib.hid fun w' A hr hS => by
    refine (same_true [(2, 0, ⟨#[97]⟩)] [(2, 0, ⟨#[97]⟩)] A2_ A n2_ 1 c2_ 1 _ _ _ ((Hp2.out.below hS.1).more hS.1.size) hr rfl).mono ?_
    rintro e w'' ⟨rfl, hb⟩
    exact ⟨rfl, KeepS.out _ (hS.1.trans (hb.mono hS.1.size))⟩
  have hS0 := KeepS.out _ (Below.refl _ _)
  clear q0 q0' q1' p0 r0 r0'
  go_wp2_with fail
  go_region_held3 (fun w' => (Below w4.heap.size w4 w' ∧ w'.cell? ⟨g0, 0, none⟩ = some (.slice (some ⟨g1, 0, none⟩) 2 d1) ∧ w'.cell? ⟨g0, 1, none⟩ = some (.slice (some ⟨g2, 0, none⟩) 1 d2) ∧ w'.cell? ⟨g2, 0, none⟩ = some (.slice A2_ n2_ c2_) ∧ g0 < w'.heap.size ∧ g2 < w'.heap.size)) (first | with_reducible assumption | exact KeepS.out _ (Below.drew (Below.refl _ _)) | exact KeepS.out _ (by assumption) | exact KeepS.out _ (Below.drew (by assumption)) | (go_split_ands; exact KeepS.out _ (by assumption)))
    ((first | (go_at_call 19; with_reducible refine (GP.out _ (by assumption)).mono ?_; rintro e x1 ⟨Ap, rfl, hrp, hS1⟩) | (go_at_call 18; with_reducible refine (GS.out _ _ (by assumption) (by assumption)).mono ?_; rintro e x2 ⟨rfl, hS2⟩)))
  have hbx := hS2.1
  clear KeepS GP GS hS0 hS1 hS2 hrp Hp2
  have hbw5 := hbw4.trans (hbx.mono hbw4.size)
  have Hl5 := Lib.hid (RdR.step Hl.out hbx)
  clear Hl
  have Hl := Hl5
  clear Hl5
  clear hbx
  go_wp2_with fail
  have hc := build_rd base l A n c x2 Hl.out H1.out m Hm.out
  refine (hc).mono ?_
  rintro e w6 ⟨At, ct, rst, ust, rfl, hrt, hit, hb6⟩
  have hbw6 := hbw5.trans (hb6.mono hbw5.size)
  have Hl6 := Lib.hid (RdR.step Hl.out hb6)
  clear Hl
  have Hl := Hl6
  clear Hl6
  clear hb6
  clear hc hit
  have Ht := Lib.hid hrt
  clear hrt
  go_wp2_with fail
  have hbc : Below w.heap.size w w6 := hbw6
  have hn64n : l.length ≤ 64 := by have := Hn.out; omega
  go_loopw [8, 13, 85] (fun rv nv iv wr => ∃ (r : Nat), r ≤ m ∧ iv = .int .i64 r ∧ Hid (Below w6.heap.size w6 wr)) (fun _ _ iv _ => m - (intOf iv).toNat)
  case atStart => exact ⟨0, by omega, rfl, Lib.hid (Below.refl _ _)⟩
  case round =>
    obtain ⟨r, hk, rfl, hbr⟩ := hrel
    by_cases hlt : r < m
    · have hkm : (r : Int) < (m : Int) := by omega
      have hk0 : (0 : Int) ≤ (r : Int) := by omega
      have hkt : r < (tiersL l).length := by have := Hm.out; omega
      obtain ⟨hq1, hq2, -⟩ := tiersL_at hn64n r hkt
      obtain ⟨g, g1, c1, A2, n2, c2, e0, -, pg, pc, -, -, -, -⟩ := (Ht.out.step hbr.out).look r 0 _ ((tiersL l)[r])[0] (List.getElem?_eq_getElem hkt) (List.getElem?_eq_getElem hq2)
      subst e0
      rw [hq1, ← Hn.out] at pc
      clear hq1 hq2
      have hk6 : r = 0 ∨ r = 1 ∨ r = 2 ∨ r = 3 ∨ r = 4 ∨ r = 5 ∨ r = 6 := by omega
      rcases hk6 with rfl | rfl | rfl | rfl | rfl | rfl | rfl
      · go_wp2_with fail
        go_quiet (fail)
        go_wp2_with fail
        go_roundw
        case rel => exact ⟨1, by omega, rfl, Lib.hid (below_drewN_ hbr.out _)⟩
        case measure => simp [intOf]; omega
      · go_wp2_with fail
        go_quiet (fail)
        go_wp2_with fail
        go_roundw
        case rel => exact ⟨2, by omega, rfl, Lib.hid (below_drewN_ hbr.out _)⟩
        case measure => simp [intOf]; omega
      · go_wp2_with fail
        go_quiet (fail)
        go_wp2_with fail
        go_roundw
        case rel => exact ⟨3, by omega, rfl, Lib.hid (below_drewN_ hbr.out _)⟩
        case measure => simp [intOf]; omega
      · go_wp2_with fail
        go_quiet (fail)
        go_wp2_with fail
        go_roundw
        case rel => exact ⟨4, by omega, rfl, Lib.hid (below_drewN_ hbr.out _)⟩
        case measure => simp [intOf]; omega
      · go_wp2_with fail
        go_quiet (fail)
        go_wp2_with fail
        go_roundw
        case rel => exact ⟨5, by omega, rfl, Lib.hid (below_drewN_ hbr.out _)⟩
        case measure => simp [intOf]; omega
      · go_wp2_with fail
        go_quiet (fail)
        go_wp2_with fail
        go_roundw
        case rel => exact ⟨6, by omega, rfl, Lib.hid (below_drewN_ hbr.out _)⟩
        case measure => simp [intOf]; omega
      · go_wp2_with fail
        go_quiet (fail)
        go_wp2_with fail
        go_roundw
        case rel => exact ⟨7, by omega, rfl, Lib.hid (below_drewN_ hbr.out _)⟩
        case measure => simp [intOf]; omega
    · obtain rfl : r = m := by omega
      have hbx := hbr.out
      clear hbr hlt hk
      have hbw7 := hbw6.trans (hbx.mono hbw6.size)
      have Hl7 := Lib.hid (RdR.step Hl.out hbx)
      clear Hl
      have Hl := Hl7
      clear Hl7
      have Ht7 := Lib.hid (OwnTier.step Ht.out hbx)
      clear Ht
      have Ht := Ht7
      clear Ht7
      clear hbx
      go_wp2_with fail
      have hc := within_any i r wr (by omega) (by omega)
      refine (hc).mono ?_
      rintro e w8 ⟨rfl, rfl⟩
      clear hc
      have hI := wi_lt i r (by omega)
      generalize wi i r = I at *
      have hIi : (I : Int) < (r : Int) := by omega
      have hI0 : (0 : Int) ≤ (I : Int) := by omega
      have hIt : I < (tiersL l).length := by have := Hm.out; omega
      obtain ⟨hq1, hq2, -⟩ := tiersL_at hn64n I hIt
      obtain ⟨g, gx, c1, A2, n2, c2, e0, -, pg, pc, -, -, -, -⟩ := Ht.out.look I 0 _ ((tiersL l)[I])[0] (List.getElem?_eq_getElem hIt) (List.getElem?_eq_getElem hq2)
      subst e0
      obtain ⟨q, hq⟩ : ∃ q, ((tiersL l)[I]).length = q := ⟨_, rfl⟩
      rw [hq] at pc hq1
      have hq0 : 0 < q := by rw [← hq]; exact hq2
      have hqn : q * 2 ^ I ≤ n := by rw [hq1, Hn.out]; exact Nat.div_mul_le_self _ _
      have hqn1 : q ≤ n := Nat.le_trans (Nat.le_mul_of_pos_right q (Nat.two_pow_pos I)) hqn
      have Hq := Lib.hid hq
      have Hq1 := Lib.hid hq1
      have Hqn := Lib.hid hqn
      clear hq hq1 hq2 hqn A2 n2 c2
      go_wp2_with fail
      have hc := within_any k q wr (by omega) (by omega)
      refine (hc).mono ?_
      rintro e w9 ⟨rfl, rfl⟩
      clear hc
      have hK := wi_lt k q hq0
      generalize wi k q = K at *
      have hKi : (K : Int) < (q : Int) := by omega
      have hK0 : (0 : Int) ≤ (K : Int) := by omega
      have hKe : (K + 1) * 2 ^ I ≤ l.length := by rw [← Hn.out]; exact Nat.le_trans (Nat.mul_le_mul_right _ (by omega)) Hqn.out
      obtain ⟨ls, hl1, hl2⟩ := tier_block H1.out I K hKe
      obtain ⟨g', gx', c1', A2, n2, c2, e0', -, -, pc', pg2, pc2, -, hrd⟩ := Ht.out.look I K ls _ hl1 hl2
      have e2 : g = g' := by injection e0' with e0'; injection e0'
      subst e2
      clear e0'
      have hll : ls.length = q := by
        rw [← Hq.out]
        have h5 : (tiersL l)[I]? = some (tiersL l)[I] := List.getElem?_eq_getElem hIt
        rw [h5] at hl1
        injection hl1 with hl1
        rw [hl1]
      rw [hll, pc] at pc'
      injection pc' with pc'
      injection pc' with pc' _ _
      injection pc' with pc'
      injection pc' with pc'
      subst pc'
      have hKle : K * 2 ^ I ≤ (K + 1) * 2 ^ I := Nat.mul_le_mul_right _ (by omega)
      have hdo := btw_of H1.out (K * 2 ^ I) ((K + 1) * 2 ^ I) hKle hKe
      have hsz := txt_size l base (K * 2 ^ I) (txE_parts H1.out).1
      have Hd : Hid (RdP wr wr.heap.size A2 n2 c2 (bk base l (K * 2 ^ I) ((K + 1) * 2 ^ I))) := Lib.hid hrd
      have hdo1 : doE (bk base l (K * 2 ^ I) ((K + 1) * 2 ^ I)) (txt base l (K * 2 ^ I)) = 0 := hdo.1
      have hdo2 : doS (bk base l (K * 2 ^ I) ((K + 1) * 2 ^ I)) (txt base l (K * 2 ^ I)) = txt base l ((K + 1) * 2 ^ I) := hdo.2
      clear hrd hdo hl1 hl2 hKle Hq Hq1 hIt ls hll
      obtain ⟨P, hP⟩ : ∃ P, K * 2 ^ I = P := ⟨_, rfl⟩
      obtain ⟨Q, hQ⟩ : ∃ Q, (K + 1) * 2 ^ I = Q := ⟨_, rfl⟩
      rw [hQ] at hKe
      rw [hP] at hsz
      rw [hP, hQ] at Hd hdo1 hdo2
      have hPQ : P ≤ Q := by rw [← hP, ← hQ]; exact Nat.mul_le_mul_right _ (by omega)
      obtain ⟨S, hS⟩ : ∃ S, txt base l P = S := ⟨_, rfl⟩
      obtain ⟨T, hT⟩ : ∃ T, txt base l Q = T := ⟨_, rfl⟩
      obtain ⟨d, hd⟩ : ∃ d, bk base l P Q = d := ⟨_, rfl⟩
      rw [hS] at hsz
      rw [hS, hd] at hdo1
      rw [hS, hd, hT] at hdo2
      rw [hd] at Hd
      have HS := Lib.hid hS
      have HT := Lib.hid hT
      have Hdo1 := Lib.hid hdo1
      have Hdo2 := Lib.hid hdo2
      clear hS hT hd hdo1 hdo2
      have hIc := Hlen0.out
      have hI6 : I = 0 ∨ I = 1 ∨ I = 2 ∨ I = 3 ∨ I = 4 ∨ I = 5 ∨ I = 6 := by omega
      have hr7 : r = 1 ∨ r = 2 ∨ r = 3 ∨ r = 4 ∨ r = 5 ∨ r = 6 ∨ r = 7 := by omega
      clear Hqn
      rw [← Hn.out] at hIc
      have Hr7 := Lib.hid hr7
      clear hr7
      rcases hI6 with rfl | rfl | rfl | rfl | rfl | rfl | rfl
      · obtain rfl : K = P := by omega
        obtain rfl : K + 1 = Q := by omega
        have hc1 : ((K + 1 : Nat) : Int) = (K : Int) + 1 := by omega
        go_wp2_with fail
        have hc := rtext_good base l A n c _ K wr Hl.out (Nat.le_refl _) H1.out (by omega)
        rw [HS.out] at hc
        refine hc.mono ?_
        rintro e w10 ⟨rfl, hb10⟩
        have hv10 := (Below.refl wr.heap.size wr).trans (hb10.mono (Below.refl wr.heap.size wr).size)
        clear hc
        have hbw10 := hbw7.trans (hb10.mono hbw7.size)
        have Hl10 := Lib.hid (RdR.step Hl.out hb10)
        clear Hl
        have Hl := Hl10
        clear Hl10
        have Ht10 := Lib.hid (OwnTier.step Ht.out hb10)
        clear Ht
        have Ht := Ht10
        clear Ht10
        have Hd10 := Lib.hid (RdP.step Hd.out hb10)
        clear Hd
        have Hd := Hd10
        clear Hd10
        clear hb10
        go_wp2_with fail
        have hc := rtext_good base l A n c _ (K + 1) w10 Hl.out (Nat.le_refl _) H1.out (by omega)
        rw [HT.out, hc1] at hc
        refine hc.mono ?_
        rintro e w11 ⟨rfl, hb11⟩
        have hv11 := hv10.trans (hb11.mono hv10.size)
        clear hc
        have hbw11 := hbw10.trans (hb11.mono hbw10.size)
        have Hl11 := Lib.hid (RdR.step Hl.out hb11)
        clear Hl
        have Hl := Hl11
        clear Hl11
        have Ht11 := Lib.hid (OwnTier.step Ht.out hb11)
        clear Ht
        have Ht := Ht11
        clear Ht11
        have Hd11 := Lib.hid (RdP.step Hd.out hb11)
        clear Hd
        have Hd := Hd11
        clear Hd11
        clear hb11
        have p1 := (hv11.cell (p := ⟨g, 0, none⟩) pg).trans pc
        have p2 := (hv11.cell (p := ⟨gx, K, none⟩) pg2).trans pc2
        have p3 : g < w11.heap.size := by have := hv11.size; omega
        have p4 : gx < w11.heap.size := by have := hv11.size; omega
        clear pc pc2 pg pg2 hv10 hv11
        go_wp2_with fail
        have hc := do_any d A2 n2 c2 _ S _ Hd.out (Nat.le_refl _) (by omega)
        rw [Hdo1.out] at hc
        rw [Hdo2.out] at hc
        refine (hc).mono ?_
        rintro e w12 ⟨rfl, hb12⟩
        have hbw12 := hbw11.trans (hb12.mono hbw11.size)
        have Hl12 := Lib.hid (RdR.step Hl.out hb12)
        clear Hl
        have Hl := Hl12
        clear Hl12
        have Ht12 := Lib.hid (OwnTier.step Ht.out hb12)
        clear Ht
        have Ht := Ht12
        clear Ht12
        have Hd12 := Lib.hid (RdP.step Hd.out hb12)
        clear Hd
        have Hd := Hd12
        clear Hd12
        clear hb12
        clear hc
        have hfin : (n : Int) / 2 ^ r = 0 := by
          have h7 := Hr7.out
          rcases h7 with rfl | rfl | rfl | rfl | rfl | rfl | rfl <;> simp only [Nat.reducePow] at hIc <;> omega
        go_wp2_with fail
        go_ret
        exact ⟨rfl, hbw12⟩
      · have hPi : (K : Int) * 2 = (P : Int) := by omega
        have hQi : ((K : Int) + 1) * 2 = (Q : Int) := by omega
        clear hP hQ
        go_wp2_with fail
        have hc := rtext_good base l A n c _ P wr Hl.out (Nat.le_refl _) H1.out (by omega)
        rw [HS.out] at hc
        refine hc.mono ?_
        rintro e w10 ⟨rfl, hb10⟩
        have hv10 := (Below.refl wr.heap.size wr).trans (hb10.mono (Below.refl wr.heap.size wr).size)
        clear hc
        have hbw10 := hbw7.trans (hb10.mono hbw7.size)
        have Hl10 := Lib.hid (RdR.step Hl.out hb10)
        clear Hl
        have Hl := Hl10
        clear Hl10
        have Ht10 := Lib.hid (OwnTier.step Ht.out hb10)
        clear Ht
        have Ht := Ht10
        clear Ht10
        have Hd10 := Lib.hid (RdP.step Hd.out hb10)
        clear Hd
        have Hd := Hd10
        clear Hd10
        clear hb10
        go_wp2_with fail
        have hc := rtext_good base l A n c _ Q w10 Hl.out (Nat.le_refl _) H1.out (by omega)
        rw [HT.out] at hc
        refine hc.mono ?_
        rintro e w11 ⟨rfl, hb11⟩
        have hv11 := hv10.trans (hb11.mono hv10.size)
        clear hc
        have hbw11 := hbw10.trans (hb11.mono hbw10.size)
        have Hl11 := Lib.hid (RdR.step Hl.out hb11)
        clear Hl
        have Hl := Hl11
        clear Hl11
        have Ht11 := Lib.hid (OwnTier.step Ht.out hb11)
        clear Ht
        have Ht := Ht11
        clear Ht11
        have Hd11 := Lib.hid (RdP.step Hd.out hb11)
        clear Hd
        have Hd := Hd11
        clear Hd11
        clear hb11
        have p1 := (hv11.cell (p := ⟨g, 1, none⟩) pg).trans pc
        have p2 := (hv11.cell (p := ⟨gx, K, none⟩) pg2).trans pc2
        have p3 : g < w11.heap.size := by have := hv11.size; omega
        have p4 : gx < w11.heap.size := by have := hv11.size; omega
        clear pc pc2 pg pg2 hv10 hv11
        go_wp2_with fail
        have hc := do_any d A2 n2 c2 _ S _ Hd.out (Nat.le_refl _) (by omega)
        rw [Hdo1.out] at hc
        rw [Hdo2.out] at hc
        refine (hc).mono ?_
        rintro e w12 ⟨rfl, hb12⟩
        have hbw12 := hbw11.trans (hb12.mono hbw11.size)
        have Hl12 := Lib.hid (RdR.step Hl.out hb12)
        clear Hl
        have Hl := Hl12
        clear Hl12
        have Ht12 := Lib.hid (OwnTier.step Ht.out hb12)
        clear Ht
        have Ht := Ht12
        clear Ht12
        have Hd12 := Lib.hid (RdP.step Hd.out hb12)
        clear Hd
        have Hd := Hd12
        clear Hd12
        clear hb12
        clear hc
        have hfin : (n : Int) / 2 ^ r = 0 := by
          have h7 := Hr7.out
          rcases h7 with rfl | rfl | rfl | rfl | rfl | rfl | rfl <;> simp only [Nat.reducePow] at hIc <;> omega
        go_wp2_with fail
        go_ret
        exact ⟨rfl, hbw12⟩
      · have hPi : (K : Int) * 4 = (P : Int) := by omega
        have hQi : ((K : Int) + 1) * 4 = (Q : Int) := by omega
        clear hP hQ
        go_wp2_with fail
        have hc := rtext_good base l A n c _ P wr Hl.out (Nat.le_refl _) H1.out (by omega)
        rw [HS.out] at hc
        refine hc.mono ?_
        rintro e w10 ⟨rfl, hb10⟩
        have hv10 := (Below.refl wr.heap.size wr).trans (hb10.mono (Below.refl wr.heap.size wr).size)
        clear hc
        have hbw10 := hbw7.trans (hb10.mono hbw7.size)
        have Hl10 := Lib.hid (RdR.step Hl.out hb10)
        clear Hl
        have Hl := Hl10
        clear Hl10
        have Ht10 := Lib.hid (OwnTier.step Ht.out hb10)
        clear Ht
        have Ht := Ht10
        clear Ht10
        have Hd10 := Lib.hid (RdP.step Hd.out hb10)
        clear Hd
        have Hd := Hd10
        clear Hd10
        clear hb10
        go_wp2_with fail
        have hc := rtext_good base l A n c _ Q w10 Hl.out (Nat.le_refl _) H1.out (by omega)
        rw [HT.out] at hc
        refine hc.mono ?_
        rintro e w11 ⟨rfl, hb11⟩
        have hv11 := hv10.trans (hb11.mono hv10.size)
        clear hc
        have hbw11 := hbw10.trans (hb11.mono hbw10.size)
        have Hl11 := Lib.hid (RdR.step Hl.out hb11)
        clear Hl
        have Hl := Hl11
        clear Hl11
        have Ht11 := Lib.hid (OwnTier.step Ht.out hb11)
        clear Ht
        have Ht := Ht11
        clear Ht11
        have Hd11 := Lib.hid (RdP.step Hd.out hb11)
        clear Hd
        have Hd := Hd11
        clear Hd11
        clear hb11
        have p1 := (hv11.cell (p := ⟨g, 2, none⟩) pg).trans pc
        have p2 := (hv11.cell (p := ⟨gx, K, none⟩) pg2).trans pc2
        have p3 : g < w11.heap.size := by have := hv11.size; omega
        have p4 : gx < w11.heap.size := by have := hv11.size; omega
        clear pc pc2 pg pg2 hv10 hv11
        go_wp2_with fail
        have hc := do_any d A2 n2 c2 _ S _ Hd.out (Nat.le_refl _) (by omega)
        rw [Hdo1.out] at hc
        rw [Hdo2.out] at hc
        refine (hc).mono ?_
        rintro e w12 ⟨rfl, hb12⟩
        have hbw12 := hbw11.trans (hb12.mono hbw11.size)
        have Hl12 := Lib.hid (RdR.step Hl.out hb12)
        clear Hl
        have Hl := Hl12
        clear Hl12
        have Ht12 := Lib.hid (OwnTier.step Ht.out hb12)
        clear Ht
        have Ht := Ht12
        clear Ht12
        have Hd12 := Lib.hid (RdP.step Hd.out hb12)
        clear Hd
        have Hd := Hd12
        clear Hd12
        clear hb12
        clear hc
        have hfin : (n : Int) / 2 ^ r = 0 := by
          have h7 := Hr7.out
          rcases h7 with rfl | rfl | rfl | rfl | rfl | rfl | rfl <;> simp only [Nat.reducePow] at hIc <;> omega
        go_wp2_with fail
        go_ret
        exact ⟨rfl, hbw12⟩
      · have hPi : (K : Int) * 8 = (P : Int) := by omega
        have hQi : ((K : Int) + 1) * 8 = (Q : Int) := by omega
        clear hP hQ
        go_wp2_with fail
        have hc := rtext_good base l A n c _ P wr Hl.out (Nat.le_refl _) H1.out (by omega)
        rw [HS.out] at hc
        refine hc.mono ?_
        rintro e w10 ⟨rfl, hb10⟩
        have hv10 := (Below.refl wr.heap.size wr).trans (hb10.mono (Below.refl wr.heap.size wr).size)
        clear hc
        have hbw10 := hbw7.trans (hb10.mono hbw7.size)
        have Hl10 := Lib.hid (RdR.step Hl.out hb10)
        clear Hl
        have Hl := Hl10
        clear Hl10
        have Ht10 := Lib.hid (OwnTier.step Ht.out hb10)
        clear Ht
        have Ht := Ht10
        clear Ht10
        have Hd10 := Lib.hid (RdP.step Hd.out hb10)
        clear Hd
        have Hd := Hd10
        clear Hd10
        clear hb10
        go_wp2_with fail
        have hc := rtext_good base l A n c _ Q w10 Hl.out (Nat.le_refl _) H1.out (by omega)
        rw [HT.out] at hc
        refine hc.mono ?_
        rintro e w11 ⟨rfl, hb11⟩
        have hv11 := hv10.trans (hb11.mono hv10.size)
        clear hc
        have hbw11 := hbw10.trans (hb11.mono hbw10.size)
        have Hl11 := Lib.hid (RdR.step Hl.out hb11)
        clear Hl
        have Hl := Hl11
        clear Hl11
        have Ht11 := Lib.hid (OwnTier.step Ht.out hb11)
        clear Ht
        have Ht := Ht11
        clear Ht11
        have Hd11 := Lib.hid (RdP.step Hd.out hb11)
        clear Hd
        have Hd := Hd11
        clear Hd11
        clear hb11
        have p1 := (hv11.cell (p := ⟨g, 3, none⟩) pg).trans pc
        have p2 := (hv11.cell (p := ⟨gx, K, none⟩) pg2).trans pc2
        have p3 : g < w11.heap.size := by have := hv11.size; omega
        have p4 : gx < w11.heap.size := by have := hv11.size; omega
        clear pc pc2 pg pg2 hv10 hv11
        go_wp2_with fail
        have hc := do_any d A2 n2 c2 _ S _ Hd.out (Nat.le_refl _) (by omega)
        rw [Hdo1.out] at hc
        rw [Hdo2.out] at hc
        refine (hc).mono ?_
        rintro e w12 ⟨rfl, hb12⟩
        have hbw12 := hbw11.trans (hb12.mono hbw11.size)
        have Hl12 := Lib.hid (RdR.step Hl.out hb12)
        clear Hl
        have Hl := Hl12
        clear Hl12
        have Ht12 := Lib.hid (OwnTier.step Ht.out hb12)
        clear Ht
        have Ht := Ht12
        clear Ht12
        have Hd12 := Lib.hid (RdP.step Hd.out hb12)
        clear Hd
        have Hd := Hd12
        clear Hd12
        clear hb12
        clear hc
        have hfin : (n : Int) / 2 ^ r = 0 := by
          have h7 := Hr7.out
          rcases h7 with rfl | rfl | rfl | rfl | rfl | rfl | rfl <;> simp only [Nat.reducePow] at hIc <;> omega
        go_wp2_with fail
        go_ret
        exact ⟨rfl, hbw12⟩
      · have hPi : (K : Int) * 16 = (P : Int) := by omega
        have hQi : ((K : Int) + 1) * 16 = (Q : Int) := by omega
        clear hP hQ
        go_wp2_with fail
        have hc := rtext_good base l A n c _ P wr Hl.out (Nat.le_refl _) H1.out (by omega)
        rw [HS.out] at hc
        refine hc.mono ?_
        rintro e w10 ⟨rfl, hb10⟩
        have hv10 := (Below.refl wr.heap.size wr).trans (hb10.mono (Below.refl wr.heap.size wr).size)
        clear hc
        have hbw10 := hbw7.trans (hb10.mono hbw7.size)
        have Hl10 := Lib.hid (RdR.step Hl.out hb10)
        clear Hl
        have Hl := Hl10
        clear Hl10
        have Ht10 := Lib.hid (OwnTier.step Ht.out hb10)
        clear Ht
        have Ht := Ht10
        clear Ht10
        have Hd10 := Lib.hid (RdP.step Hd.out hb10)
        clear Hd
        have Hd := Hd10
        clear Hd10
        clear hb10
        go_wp2_with fail
        have hc := rtext_good base l A n c _ Q w10 Hl.out (Nat.le_refl _) H1.out (by omega)
        rw [HT.out] at hc
        refine hc.mono ?_
        rintro e w11 ⟨rfl, hb11⟩
        have hv11 := hv10.trans (hb11.mono hv10.size)
        clear hc
        have hbw11 := hbw10.trans (hb11.mono hbw10.size)
        have Hl11 := Lib.hid (RdR.step Hl.out hb11)
        clear Hl
        have Hl := Hl11
        clear Hl11
        have Ht11 := Lib.hid (OwnTier.step Ht.out hb11)
        clear Ht
        have Ht := Ht11
        clear Ht11
        have Hd11 := Lib.hid (RdP.step Hd.out hb11)
        clear Hd
        have Hd := Hd11
        clear Hd11
        clear hb11
        have p1 := (hv11.cell (p := ⟨g, 4, none⟩) pg).trans pc
        have p2 := (hv11.cell (p := ⟨gx, K, none⟩) pg2).trans pc2
        have p3 : g < w11.heap.size := by have := hv11.size; omega
        have p4 : gx < w11.heap.size := by have := hv11.size; omega
        clear pc pc2 pg pg2 hv10 hv11
        go_wp2_with fail
        have hc := do_any d A2 n2 c2 _ S _ Hd.out (Nat.le_refl _) (by omega)
        rw [Hdo1.out] at hc
        rw [Hdo2.out] at hc
        refine (hc).mono ?_
        rintro e w12 ⟨rfl, hb12⟩
        have hbw12 := hbw11.trans (hb12.mono hbw11.size)
        have Hl12 := Lib.hid (RdR.step Hl.out hb12)
        clear Hl
        have Hl := Hl12
        clear Hl12
        have Ht12 := Lib.hid (OwnTier.step Ht.out hb12)
        clear Ht
        have Ht := Ht12
        clear Ht12
        have Hd12 := Lib.hid (RdP.step Hd.out hb12)
        clear Hd
        have Hd := Hd12
        clear Hd12
        clear hb12
        clear hc
        have hfin : (n : Int) / 2 ^ r = 0 := by
          have h7 := Hr7.out
          rcases h7 with rfl | rfl | rfl | rfl | rfl | rfl | rfl <;> simp only [Nat.reducePow] at hIc <;> omega
        go_wp2_with fail
        go_ret
        exact ⟨rfl, hbw12⟩
      · have hPi : (K : Int) * 32 = (P : Int) := by omega
        have hQi : ((K : Int) + 1) * 32 = (Q : Int) := by omega
        clear hP hQ
        go_wp2_with fail
        have hc := rtext_good base l A n c _ P wr Hl.out (Nat.le_refl _) H1.out (by omega)
        rw [HS.out] at hc
        refine hc.mono ?_
        rintro e w10 ⟨rfl, hb10⟩
        have hv10 := (Below.refl wr.heap.size wr).trans (hb10.mono (Below.refl wr.heap.size wr).size)
        clear hc
        have hbw10 := hbw7.trans (hb10.mono hbw7.size)
        have Hl10 := Lib.hid (RdR.step Hl.out hb10)
        clear Hl
        have Hl := Hl10
        clear Hl10
        have Ht10 := Lib.hid (OwnTier.step Ht.out hb10)
        clear Ht
        have Ht := Ht10
        clear Ht10
        have Hd10 := Lib.hid (RdP.step Hd.out hb10)
        clear Hd
        have Hd := Hd10
        clear Hd10
        clear hb10
        go_wp2_with fail
        have hc := rtext_good base l A n c _ Q w10 Hl.out (Nat.le_refl _) H1.out (by omega)
        rw [HT.out] at hc
        refine hc.mono ?_
        rintro e w11 ⟨rfl, hb11⟩
        have hv11 := hv10.trans (hb11.mono hv10.size)
        clear hc
        have hbw11 := hbw10.trans (hb11.mono hbw10.size)
        have Hl11 := Lib.hid (RdR.step Hl.out hb11)
        clear Hl
        have Hl := Hl11
        clear Hl11
        have Ht11 := Lib.hid (OwnTier.step Ht.out hb11)
        clear Ht
        have Ht := Ht11
        clear Ht11
        have Hd11 := Lib.hid (RdP.step Hd.out hb11)
        clear Hd
        have Hd := Hd11
        clear Hd11
        clear hb11
        have p1 := (hv11.cell (p := ⟨g, 5, none⟩) pg).trans pc
        have p2 := (hv11.cell (p := ⟨gx, K, none⟩) pg2).trans pc2
        have p3 : g < w11.heap.size := by have := hv11.size; omega
        have p4 : gx < w11.heap.size := by have := hv11.size; omega
        clear pc pc2 pg pg2 hv10 hv11
        go_wp2_with fail
        have hc := do_any d A2 n2 c2 _ S _ Hd.out (Nat.le_refl _) (by omega)
        rw [Hdo1.out] at hc
        rw [Hdo2.out] at hc
        refine (hc).mono ?_
        rintro e w12 ⟨rfl, hb12⟩
        have hbw12 := hbw11.trans (hb12.mono hbw11.size)
        have Hl12 := Lib.hid (RdR.step Hl.out hb12)
        clear Hl
        have Hl := Hl12
        clear Hl12
        have Ht12 := Lib.hid (OwnTier.step Ht.out hb12)
        clear Ht
        have Ht := Ht12
        clear Ht12
        have Hd12 := Lib.hid (RdP.step Hd.out hb12)
        clear Hd
        have Hd := Hd12
        clear Hd12
        clear hb12
        clear hc
        have hfin : (n : Int) / 2 ^ r = 0 := by
          have h7 := Hr7.out
          rcases h7 with rfl | rfl | rfl | rfl | rfl | rfl | rfl <;> simp only [Nat.reducePow] at hIc <;> omega
        go_wp2_with fail
        go_ret
        exact ⟨rfl, hbw12⟩
      · have hPi : (K : Int) * 64 = (P : Int) := by omega
        have hQi : ((K : Int) + 1) * 64 = (Q : Int) := by omega
        clear hP hQ
        go_wp2_with fail
        have hc := rtext_good base l A n c _ P wr Hl.out (Nat.le_refl _) H1.out (by omega)
        rw [HS.out] at hc
        refine hc.mono ?_
        rintro e w10 ⟨rfl, hb10⟩
        have hv10 := (Below.refl wr.heap.size wr).trans (hb10.mono (Below.refl wr.heap.size wr).size)
        clear hc
        have hbw10 := hbw7.trans (hb10.mono hbw7.size)
        have Hl10 := Lib.hid (RdR.step Hl.out hb10)
        clear Hl
        have Hl := Hl10
        clear Hl10
        have Ht10 := Lib.hid (OwnTier.step Ht.out hb10)
        clear Ht
        have Ht := Ht10
        clear Ht10
        have Hd10 := Lib.hid (RdP.step Hd.out hb10)
        clear Hd
        have Hd := Hd10
        clear Hd10
        clear hb10
        go_wp2_with fail
        have hc := rtext_good base l A n c _ Q w10 Hl.out (Nat.le_refl _) H1.out (by omega)
        rw [HT.out] at hc
        refine hc.mono ?_
        rintro e w11 ⟨rfl, hb11⟩
        have hv11 := hv10.trans (hb11.mono hv10.size)
        clear hc
        have hbw11 := hbw10.trans (hb11.mono hbw10.size)
        have Hl11 := Lib.hid (RdR.step Hl.out hb11)
        clear Hl
        have Hl := Hl11
        clear Hl11
        have Ht11 := Lib.hid (OwnTier.step Ht.out hb11)
        clear Ht
        have Ht := Ht11
        clear Ht11
        have Hd11 := Lib.hid (RdP.step Hd.out hb11)
        clear Hd
        have Hd := Hd11
        clear Hd11
        clear hb11
        have p1 := (hv11.cell (p := ⟨g, 6, none⟩) pg).trans pc
        have p2 := (hv11.cell (p := ⟨gx, K, none⟩) pg2).trans pc2
        have p3 : g < w11.heap.size := by have := hv11.size; omega
        have p4 : gx < w11.heap.size := by have := hv11.size; omega
        clear pc pc2 pg pg2 hv10 hv11
        go_wp2_with fail
        have hc := do_any d A2 n2 c2 _ S _ Hd.out (Nat.le_refl _) (by omega)
        rw [Hdo1.out] at hc
        rw [Hdo2.out] at hc
        refine (hc).mono ?_
        rintro e w12 ⟨rfl, hb12⟩
        have hbw12 := hbw11.trans (hb12.mono hbw11.size)
        have Hl12 := Lib.hid (RdR.step Hl.out hb12)
        clear Hl
        have Hl := Hl12
        clear Hl12
        have Ht12 := Lib.hid (OwnTier.step Ht.out hb12)
        clear Ht
        have Ht := Ht12
        clear Ht12
        have Hd12 := Lib.hid (RdP.step Hd.out hb12)
        clear Hd
        have Hd := Hd12
        clear Hd12
        clear hb12
        clear hc
        have hfin : (n : Int) / 2 ^ r = 0 := by
          have h7 := Hr7.out
          rcases h7 with rfl | rfl | rfl | rfl | rfl | rfl | rfl <;> simp only [Nat.reducePow] at hIc <;> omega
        go_wp2_with fail
        go_ret
        exact ⟨rfl, hbw12⟩
theorem walk_TierRows (base : ByteArray) (hs : base.size ≤ 140737488351232) (v : Value) (l : List Rv) (i : Int) (wi_ : (Lit.int .i64 i).wf = true) (k : Int) (wk : (Lit.int .i64 k).wf = true) (w : World) (hx : IsRevs w v l) :
    Calls Try.prog 3 #[.string base, v, .int .i64 i, .int .i64 k] w fun e w' => e = .returned (.bool true) ∧ Below w.heap.size w w' := by
  obtain ⟨A, n, c, rfl, h⟩ := hx
  by_cases h1 : txE base l = 0
  · by_cases h0 : l = []
    · subst h0
      exact tierRows_nil base A n c i k hs w h h1
    · exact tierRows_ok base l A n c i k hs w h h1 h0
  · exact tierRows_err base l A n c i k hs w h h1
end Go.Proofs.Ytfncpcmaplhojaa