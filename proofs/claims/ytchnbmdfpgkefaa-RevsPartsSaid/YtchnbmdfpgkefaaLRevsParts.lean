/- RevsParts: the walk. What comes between two revisions makes the one text of the other; between three it is the parts' as one. -/
import Derived.Test.YtchnbmdfpgkefaaBetween
import Derived.Test.YtchnbmdfpgkefaaPartsLaw
import Derived.Test.YtchnbmdfpgkefaaSort3
import Derived.Test.YtchnbmdfpgkefaaFirst
import Derived.Test.YtchnbmdfpgkefaaOpenRevs
import Derived.Test.YtchnbmdfpgkefaaWithin
namespace Go.Proofs.Ytchnbmdfpgkefaa
open Go.ChangeShapes Go.WideShapes Go.RowKit
set_option linter.unusedVariables false
set_option linter.unusedSimpArgs false
set_option maxRecDepth 100000
set_option maxHeartbeats 4000000


theorem betweenS (base : ByteArray) (l : List Rv) (A : Option Addr) (n c i k g : Nat) (v0 v1 v2 : Value) (W : World) (h : RdR W W.heap.size A n c l) (hg : g < W.heap.size) (he : txE base l = 0) (hik : i ≤ k) (hkn : k ≤ n) (R : List Pt)
    (hR : btw (allL (txt base l i).size) ((l.drop i).take (k - i)) = R) : ∀ w', (Below W.heap.size W w' ∧ w'.cell? ⟨g, 0, none⟩ = some v0 ∧ w'.cell? ⟨g, 1, none⟩ = some v1 ∧ w'.cell? ⟨g, 2, none⟩ = some v2) →
    Calls Try.prog 29 #[.string base, .slice A n c, .int .i64 i, .int .i64 k] w' fun e w'' => ∃ A1 n1 c1, e = .returned (.tuple #[.slice A1 n1 c1, .int .i64 0]) ∧ RdP w'' w''.heap.size A1 n1 c1 R ∧ (Below W.heap.size W w'' ∧ w''.cell? ⟨g, 0, none⟩ = some v0 ∧ w''.cell? ⟨g, 1, none⟩ = some v1 ∧ w''.cell? ⟨g, 2, none⟩ = some v2) ∧ Below w'.heap.size w' w'' := by
  rintro w' ⟨q0, q1, q2, q3⟩
  have hs := q0.size
  refine (between_good base l A n c _ i k w' ((h.below q0).more hs) (Nat.le_refl _) he hik hkn R hR).mono ?_
  rintro e w'' ⟨A1, n1, c1, rfl, h1, hb⟩
  exact ⟨_, _, _, rfl, h1, ⟨q0.trans (hb.mono hs), (hb.cell (by show g < _; omega)).trans q1, (hb.cell (by show g < _; omega)).trans q2, (hb.cell (by show g < _; omega)).trans q3⟩, hb⟩
theorem cs_drew {W w' : World} {g : Nat} {v0 v1 v2 : Value} (h : (Below W.heap.size W w' ∧ w'.cell? ⟨g, 0, none⟩ = some v0 ∧ w'.cell? ⟨g, 1, none⟩ = some v1 ∧ w'.cell? ⟨g, 2, none⟩ = some v2)) : (Below W.heap.size W w'.drew ∧ w'.drew.cell? ⟨g, 0, none⟩ = some v0 ∧ w'.drew.cell? ⟨g, 1, none⟩ = some v1 ∧ w'.drew.cell? ⟨g, 2, none⟩ = some v2) := ⟨h.1.drew, h.2.1, h.2.2.1, h.2.2.2⟩
theorem undrew {B : Nat} {w w' : World} (h : Below B w.drew w') : Below B w w' := ⟨h.os, h.tape, h.output, h.size, h.block⟩

theorem revsParts_err (base : ByteArray) (l : List Rv) (A : Option Addr) (n c : Nat) (i j k : Int) (hs : base.size ≤ 140737488351232) (w : World) (h : RdR w w.heap.size A n c l) (h1 : txE base l ≠ 0) :
    Calls Try.prog 6 #[.string base, .slice A n c, .int .i64 i, .int .i64 j, .int .i64 k] w fun e w' => e = .returned (.bool true) ∧ Below w.heap.size w w' := by
  have hbw0 : Below w.heap.size w w := Below.refl _ _
  have Hl := Lib.hid h
  clear h
  have hne : (txE base l != 0) = true := by simpa using h1
  have H1 := Lib.hid h1
  clear h1
  go_enter Try.func6, Try.ntmps6
  go_wp2_with fail
  refine (first_any ⟨#[97]⟩ (by decide) w).mono ?_
  rintro e w1 ⟨Af, rfl, hrf, hb1⟩
  have hbw1 := hbw0.trans (hb1.mono hbw0.size)
  have Hl1 := Lib.hid (RdR.step Hl.out hb1)
  clear Hl
  have Hl := Hl1
  clear Hl1
  clear hb1
  have Hf := Lib.hid hrf
  clear hrf
  go_wp2_with fail
  have hrh : RdR (w1.alloc (.cells #[.int .i64 1, .int .i64 1, .slice Af 1 1] 28)) (w1.alloc (.cells #[.int .i64 1, .int .i64 1, .slice Af 1 1] 28)).heap.size (some ⟨w1.heap.size, 0, none⟩) 1 1 [(1, 1, [(2, 0, ⟨#[97]⟩)])] := by
    have q := RdR.built1 w1 1 1 Af 1 1 [(2, 0, ⟨#[97]⟩)] Hf.out
    simpa only [World.size_alloc] using q
  have hbw2 := hbw1.alloc hbw1.size (.cells #[.int .i64 1, .int .i64 1, .slice Af 1 1] 28)
  have Hl2 := Lib.hid (RdR.stepA Hl.out (.cells #[.int .i64 1, .int .i64 1, .slice Af 1 1] 28))
  clear Hl
  have Hl := Hl2
  clear Hl2
  have Hf2 := Lib.hid (RdP.stepA Hf.out (.cells #[.int .i64 1, .int .i64 1, .slice Af 1 1] 28))
  clear Hf
  have Hf := Hf2
  clear Hf2
  have Hh := Lib.hid hrh
  clear hrh
  clear Hf
  go_wp2_with fail
  have hc := rtext_good ⟨#[]⟩ [(1, 1, [(2, 0, ⟨#[97]⟩)])] (some ⟨w1.heap.size, 0, none⟩) 1 1 _ 1 (w1.alloc (.cells #[.int .i64 1, .int .i64 1, .slice Af 1 1] 28)) Hh.out (Nat.le_refl _) (by decide) (by decide)
  rw [show txt ⟨#[]⟩ [(1, 1, [(2, 0, ⟨#[97]⟩)])] 1 = ⟨#[97]⟩ from by decide] at hc
  refine (hc).mono ?_
  rintro e w3 ⟨rfl, hb3⟩
  have hbw3 := hbw2.trans (hb3.mono hbw2.size)
  have Hl3 := Lib.hid (RdR.step Hl.out hb3)
  clear Hl
  have Hl := Hl3
  clear Hl3
  have Hh3 := Lib.hid (RdR.step Hh.out hb3)
  clear Hh
  have Hh := Hh3
  clear Hh3
  clear hb3
  clear hc
  go_wp2_with fail
  clear Hh
  refine (rcheck_any base l A n c _ _ Hl.out (Nat.le_refl _) (by omega)).mono ?_
  rintro e w4 ⟨rfl, hb4⟩
  have hbw4 := hbw3.trans (hb4.mono hbw3.size)
  have Hl4 := Lib.hid (RdR.step Hl.out hb4)
  clear Hl
  have Hl := Hl4
  clear Hl4
  clear hb4
  go_wp2_with fail
  go_ret
  exact ⟨rfl, hbw4⟩
theorem revsParts_ok (base : ByteArray) (l : List Rv) (A : Option Addr) (n c : Nat) (i j k : Int) (hs : base.size ≤ 140737488351232) (w : World) (h : RdR w w.heap.size A n c l) (h1 : txE base l = 0) :
    Calls Try.prog 6 #[.string base, .slice A n c, .int .i64 i, .int .i64 j, .int .i64 k] w fun e w' => e = .returned (.bool true) ∧ Below w.heap.size w w' := by
  have hbw0 : Below w.heap.size w w := Below.refl _ _
  have Hl := Lib.hid h
  clear h
  have hn : n = l.length := Hl.out.1
  have Hn := Lib.hid hn
  have hn64 : (n : Int) ≤ 64 := by have := (txE_parts h1).2.1; omega
  have H1 := Lib.hid h1
  have hcast : ((n + 1 : Nat) : Int) = (n : Int) + 1 := by omega
  have Hcast := Lib.hid hcast
  clear h1 hn hcast
  go_enter Try.func6, Try.ntmps6
  go_wp2_with fail
  refine (first_any ⟨#[97]⟩ (by decide) w).mono ?_
  rintro e w1 ⟨Af, rfl, hrf, hb1⟩
  have hbw1 := hbw0.trans (hb1.mono hbw0.size)
  have Hl1 := Lib.hid (RdR.step Hl.out hb1)
  clear Hl
  have Hl := Hl1
  clear Hl1
  clear hb1
  have Hf := Lib.hid hrf
  clear hrf
  go_wp2_with fail
  have hrh : RdR (w1.alloc (.cells #[.int .i64 1, .int .i64 1, .slice Af 1 1] 28)) (w1.alloc (.cells #[.int .i64 1, .int .i64 1, .slice Af 1 1] 28)).heap.size (some ⟨w1.heap.size, 0, none⟩) 1 1 [(1, 1, [(2, 0, ⟨#[97]⟩)])] := by
    have q := RdR.built1 w1 1 1 Af 1 1 [(2, 0, ⟨#[97]⟩)] Hf.out
    simpa only [World.size_alloc] using q
  have hbw2 := hbw1.alloc hbw1.size (.cells #[.int .i64 1, .int .i64 1, .slice Af 1 1] 28)
  have Hl2 := Lib.hid (RdR.stepA Hl.out (.cells #[.int .i64 1, .int .i64 1, .slice Af 1 1] 28))
  clear Hl
  have Hl := Hl2
  clear Hl2
  have Hf2 := Lib.hid (RdP.stepA Hf.out (.cells #[.int .i64 1, .int .i64 1, .slice Af 1 1] 28))
  clear Hf
  have Hf := Hf2
  clear Hf2
  have Hh := Lib.hid hrh
  clear hrh
  clear Hf
  go_wp2_with fail
  have hc := rtext_good ⟨#[]⟩ [(1, 1, [(2, 0, ⟨#[97]⟩)])] (some ⟨w1.heap.size, 0, none⟩) 1 1 _ 1 (w1.alloc (.cells #[.int .i64 1, .int .i64 1, .slice Af 1 1] 28)) Hh.out (Nat.le_refl _) (by decide) (by decide)
  rw [show txt ⟨#[]⟩ [(1, 1, [(2, 0, ⟨#[97]⟩)])] 1 = ⟨#[97]⟩ from by decide] at hc
  refine (hc).mono ?_
  rintro e w3 ⟨rfl, hb3⟩
  have hbw3 := hbw2.trans (hb3.mono hbw2.size)
  have Hl3 := Lib.hid (RdR.step Hl.out hb3)
  clear Hl
  have Hl := Hl3
  clear Hl3
  have Hh3 := Lib.hid (RdR.step Hh.out hb3)
  clear Hh
  have Hh := Hh3
  clear Hh3
  clear hb3
  clear hc
  go_wp2_with fail
  clear Hh
  have hc := rcheck_any base l A n c _ _ Hl.out (Nat.le_refl _) (by omega)
  rw [H1.out] at hc
  refine (hc).mono ?_
  rintro e w4 ⟨rfl, hb4⟩
  have hbw4 := hbw3.trans (hb4.mono hbw3.size)
  have Hl4 := Lib.hid (RdR.step Hl.out hb4)
  clear Hl
  have Hl := Hl4
  clear Hl4
  clear hb4
  clear hc
  go_wp2_with fail
  have hc := within_any i (n + 1) w4 (by omega) (by omega)
  rw [Hcast.out] at hc
  refine (hc).mono ?_
  rintro e w5 ⟨rfl, rfl⟩
  clear hc
  have hI := wi_lt i (n + 1) (by omega)
  generalize wi i (n + 1) = I at *
  go_wp2_with fail
  have hc := within_any j (n + 1) w4 (by omega) (by omega)
  rw [Hcast.out] at hc
  refine (hc).mono ?_
  rintro e w6 ⟨rfl, rfl⟩
  clear hc
  have hJ := wi_lt j (n + 1) (by omega)
  generalize wi j (n + 1) = J at *
  go_wp2_with fail
  have hc := within_any k (n + 1) w4 (by omega) (by omega)
  rw [Hcast.out] at hc
  refine (hc).mono ?_
  rintro e w7 ⟨rfl, rfl⟩
  clear hc
  have hK := wi_lt k (n + 1) (by omega)
  generalize wi k (n + 1) = K at *
  go_wp2_with fail
  have Hl0 := Hl
  have kb := Blk.new w4 3 #[.int .i64 (I : Int), .int .i64 (J : Int), .int .i64 (K : Int)]
  have hbw8 := hbw4.alloc hbw4.size (.cells #[.int .i64 (I : Int), .int .i64 (J : Int), .int .i64 (K : Int)] 3)
  have Hl8 := Lib.hid (RdR.stepA Hl.out (.cells #[.int .i64 (I : Int), .int .i64 (J : Int), .int .i64 (K : Int)] 3))
  clear Hl
  have Hl := Hl8
  clear Hl8
  refine (sort3 w4.heap.size (I : Int) (J : Int) (K : Int) _ kb (n : Int) (by omega) (by omega) (by omega)).mono ?_
  rintro e wS ⟨rfl, p0, q0, r0, hp0, hpq0, hqr0, hr0, hkS, hbS⟩
  obtain ⟨P, rfl⟩ := Int.eq_ofNat_of_zero_le hp0
  obtain ⟨Q, rfl⟩ := Int.eq_ofNat_of_zero_le (show 0 ≤ q0 by omega)
  obtain ⟨R, rfl⟩ := Int.eq_ofNat_of_zero_le (show 0 ≤ r0 by omega)
  have hPQ : P ≤ Q := by omega
  have hQR : Q ≤ R := by omega
  have hRn : R ≤ n := by omega
  clear hp0 hpq0 hqr0 hr0 kb hI hJ hK
  have hbw0_ : Below w4.heap.size w4 (w4.alloc (.cells #[.int .i64 (I : Int), .int .i64 (J : Int), .int .i64 (K : Int)] 3)) := (Below.refl _ _).alloc (Nat.le_refl _) _
  have hbS2 := hbw0_.trans hbS
  have HlS : RdR wS wS.heap.size A n c l := (Hl0.out.below hbS2).more (by have := hbS2.size; omega)
  obtain ⟨G, hG⟩ : ∃ G, w4.heap.size = G := ⟨_, rfl⟩
  have hbwS := hbw4.trans (hbS2.mono hbw4.size)
  rw [hG] at hkS ⊢
  have hGl := hkS.lt
  have hlaw := parts_law H1.out P Q R hPQ hQR (by have := Hn.out; omega)
  have hdo := btw_of H1.out P R (by omega) (by have := Hn.out; omega)
  obtain ⟨LA, hLA⟩ : ∃ LA, btw (allL (txt base l P).size) ((l.drop P).take (Q - P)) = LA := ⟨_, rfl⟩
  obtain ⟨LB, hLB⟩ : ∃ LB, btw (allL (txt base l Q).size) ((l.drop Q).take (R - Q)) = LB := ⟨_, rfl⟩
  obtain ⟨LC, hLC⟩ : ∃ LC, btw (allL (txt base l P).size) ((l.drop P).take (R - P)) = LC := ⟨_, rfl⟩
  obtain ⟨S, hS⟩ : ∃ S, txt base l P = S := ⟨_, rfl⟩
  obtain ⟨T, hT⟩ : ∃ T, txt base l R = T := ⟨_, rfl⟩
  have hS5 : S.size ≤ 500 := by rw [← hS]; exact txt_size l base P (txE_parts H1.out).1
  rw [hLA, hLB, hLC] at hlaw
  rw [hLC, hS, hT] at hdo
  have Hlaw := Lib.hid hlaw
  have Hdo := Lib.hid hdo
  have HS := Lib.hid hS
  have HT := Lib.hid hT
  have HLA := Lib.hid hLA
  have HLB := Lib.hid hLB
  have HLC := Lib.hid hLC
  have HlS2 := Lib.hid HlS
  have HkS := Lib.hid hkS
  clear hLA hLB hLC hlaw hdo hS hT hG HlS hkS hbS hbS2 hbw0_
  have c0 := HkS.out.cell 0
  have c1 := HkS.out.cell 1
  have c2 := HkS.out.cell 2
  have z0 : (0 : Int) ≤ (P : Int) := by omega
  have z1 : (0 : Int) ≤ (Q : Int) := by omega
  have z2 : (0 : Int) ≤ (R : Int) := by omega
  have G1 : Hid (∀ w', (Below wS.heap.size wS w' ∧ w'.cell? ⟨G, 0, none⟩ = some (.int .i64 (P : Int)) ∧ w'.cell? ⟨G, 1, none⟩ = some (.int .i64 (Q : Int)) ∧ w'.cell? ⟨G, 2, none⟩ = some (.int .i64 (R : Int))) → Calls Try.prog 29 #[.string base, .slice A n c, .int .i64 (P : Int), .int .i64 (Q : Int)] w' fun e w'' => ∃ A1 n1 c1, e = .returned (.tuple #[.slice A1 n1 c1, .int .i64 0]) ∧ RdP w'' w''.heap.size A1 n1 c1 LA ∧ (Below wS.heap.size wS w'' ∧ w''.cell? ⟨G, 0, none⟩ = some (.int .i64 (P : Int)) ∧ w''.cell? ⟨G, 1, none⟩ = some (.int .i64 (Q : Int)) ∧ w''.cell? ⟨G, 2, none⟩ = some (.int .i64 (R : Int))) ∧ Below w'.heap.size w' w'') := Lib.hid (betweenS base l A n c P Q G _ _ _ wS HlS2.out hGl H1.out hPQ (by omega) LA HLA.out)
  have G2 : Hid (∀ w', (Below wS.heap.size wS w' ∧ w'.cell? ⟨G, 0, none⟩ = some (.int .i64 (P : Int)) ∧ w'.cell? ⟨G, 1, none⟩ = some (.int .i64 (Q : Int)) ∧ w'.cell? ⟨G, 2, none⟩ = some (.int .i64 (R : Int))) → Calls Try.prog 29 #[.string base, .slice A n c, .int .i64 (Q : Int), .int .i64 (R : Int)] w' fun e w'' => ∃ A1 n1 c1, e = .returned (.tuple #[.slice A1 n1 c1, .int .i64 0]) ∧ RdP w'' w''.heap.size A1 n1 c1 LB ∧ (Below wS.heap.size wS w'' ∧ w''.cell? ⟨G, 0, none⟩ = some (.int .i64 (P : Int)) ∧ w''.cell? ⟨G, 1, none⟩ = some (.int .i64 (Q : Int)) ∧ w''.cell? ⟨G, 2, none⟩ = some (.int .i64 (R : Int))) ∧ Below w'.heap.size w' w'') := Lib.hid (betweenS base l A n c Q R G _ _ _ wS HlS2.out hGl H1.out hQR hRn LB HLB.out)
  have G3 : Hid (∀ w', (Below wS.heap.size wS w' ∧ w'.cell? ⟨G, 0, none⟩ = some (.int .i64 (P : Int)) ∧ w'.cell? ⟨G, 1, none⟩ = some (.int .i64 (Q : Int)) ∧ w'.cell? ⟨G, 2, none⟩ = some (.int .i64 (R : Int))) → Calls Try.prog 29 #[.string base, .slice A n c, .int .i64 (P : Int), .int .i64 (R : Int)] w' fun e w'' => ∃ A1 n1 c1, e = .returned (.tuple #[.slice A1 n1 c1, .int .i64 0]) ∧ RdP w'' w''.heap.size A1 n1 c1 LC ∧ (Below wS.heap.size wS w'' ∧ w''.cell? ⟨G, 0, none⟩ = some (.int .i64 (P : Int)) ∧ w''.cell? ⟨G, 1, none⟩ = some (.int .i64 (Q : Int)) ∧ w''.cell? ⟨G, 2, none⟩ = some (.int .i64 (R : Int))) ∧ Below w'.heap.size w' w'') := Lib.hid (betweenS base l A n c P R G _ _ _ wS HlS2.out hGl H1.out (by omega) hRn LC HLC.out)
  have hSt : (Below wS.heap.size wS wS ∧ wS.cell? ⟨G, 0, none⟩ = some (.int .i64 (P : Int)) ∧ wS.cell? ⟨G, 1, none⟩ = some (.int .i64 (Q : Int)) ∧ wS.cell? ⟨G, 2, none⟩ = some (.int .i64 (R : Int))) := ⟨Below.refl _ _, c0, c1, c2⟩
  clear c0 c1 c2
  go_wp2_with fail
  go_region_held3 (fun w' => (Below wS.heap.size wS w' ∧ w'.cell? ⟨G, 0, none⟩ = some (.int .i64 (P : Int)) ∧ w'.cell? ⟨G, 1, none⟩ = some (.int .i64 (Q : Int)) ∧ w'.cell? ⟨G, 2, none⟩ = some (.int .i64 (R : Int)))) (first | with_reducible assumption | with_reducible exact cs_drew hSt)
    ((first | (go_at_call 29; with_reducible refine (G1.out _ (by assumption)).mono ?_; rintro e x1 ⟨Ab1, nb1, cb1, rfl, hrb1, gS1, hbx1⟩)))
  have hby1 := undrew hbx1
  have Hrb1 := Lib.hid hrb1
  clear hrb1 hbx1 hby1
  go_wp2_with fail
  go_region_held3 (fun w' => (Below wS.heap.size wS w' ∧ w'.cell? ⟨G, 0, none⟩ = some (.int .i64 (P : Int)) ∧ w'.cell? ⟨G, 1, none⟩ = some (.int .i64 (Q : Int)) ∧ w'.cell? ⟨G, 2, none⟩ = some (.int .i64 (R : Int)))) (first | with_reducible assumption | with_reducible exact cs_drew gS1)
    ((first | (go_at_call 29; with_reducible refine (G2.out _ (by assumption)).mono ?_; rintro e x2 ⟨Ab2, nb2, cb2, rfl, hrb2, gS2, hbx2⟩)))
  have hby2 := undrew hbx2
  have Hrb2 := Lib.hid hrb2
  have Hrb1_2 := Lib.hid (Hrb1.out.step hby2)
  clear Hrb1
  have Hrb1 := Hrb1_2
  clear Hrb1_2
  clear hrb2 hbx2 hby2
  go_wp2_with fail
  go_region_held3 (fun w' => (Below wS.heap.size wS w' ∧ w'.cell? ⟨G, 0, none⟩ = some (.int .i64 (P : Int)) ∧ w'.cell? ⟨G, 1, none⟩ = some (.int .i64 (Q : Int)) ∧ w'.cell? ⟨G, 2, none⟩ = some (.int .i64 (R : Int)))) (first | with_reducible assumption | with_reducible exact cs_drew gS2)
    ((first | (go_at_call 29; with_reducible refine (G3.out _ (by assumption)).mono ?_; rintro e x3 ⟨Ab3, nb3, cb3, rfl, hrb3, gS3, hbx3⟩)))
  have hby3 := undrew hbx3
  have Hrb3 := Lib.hid hrb3
  have Hrb1_3 := Lib.hid (Hrb1.out.step hby3)
  clear Hrb1
  have Hrb1 := Hrb1_3
  clear Hrb1_3
  have Hrb2_3 := Lib.hid (Hrb2.out.step hby3)
  clear Hrb2
  have Hrb2 := Hrb2_3
  clear Hrb2_3
  clear hrb3 hbx3 hby3
  have hbw3 := hbwS.trans (gS3.1.mono hbwS.size)
  have c0 := gS3.2.1
  have c2 := gS3.2.2.2
  have HlX := Lib.hid ((HlS2.out.below gS3.1).more gS3.1.size)
  have lG3 : G < x3.heap.size := by have := gS3.1.size; omega
  clear G1 G2 G3 gS1 gS2 gS3 hSt HlS2 HkS
  go_wp2_with fail
  have hc := rtext_good base l A n c _ P x3 HlX.out (Nat.le_refl _) H1.out (by have := Hn.out; omega)
  rw [HS.out] at hc
  refine hc.mono ?_
  rintro e w101 ⟨rfl, hb101⟩
  have c2b := (hb101.cell (p := ⟨G, 2, none⟩) lG3).trans c2
  clear hc c0 c2
  have hbw101 := hbw3.trans (hb101.mono hbw3.size)
  have Hrb1101 := Lib.hid (RdP.step Hrb1.out hb101)
  clear Hrb1
  have Hrb1 := Hrb1101
  clear Hrb1101
  have Hrb2101 := Lib.hid (RdP.step Hrb2.out hb101)
  clear Hrb2
  have Hrb2 := Hrb2101
  clear Hrb2101
  have Hrb3101 := Lib.hid (RdP.step Hrb3.out hb101)
  clear Hrb3
  have Hrb3 := Hrb3101
  clear Hrb3101
  have HlX101 := Lib.hid (RdR.step HlX.out hb101)
  clear HlX
  have HlX := HlX101
  clear HlX101
  clear hb101
  go_wp2_with fail
  have hc := rtext_good base l A n c _ R w101 HlX.out (Nat.le_refl _) H1.out (by have := Hn.out; omega)
  rw [HT.out] at hc
  refine (hc).mono ?_
  rintro e w102 ⟨rfl, hb102⟩
  have hbw102 := hbw101.trans (hb102.mono hbw101.size)
  have Hrb1102 := Lib.hid (RdP.step Hrb1.out hb102)
  clear Hrb1
  have Hrb1 := Hrb1102
  clear Hrb1102
  have Hrb2102 := Lib.hid (RdP.step Hrb2.out hb102)
  clear Hrb2
  have Hrb2 := Hrb2102
  clear Hrb2102
  have Hrb3102 := Lib.hid (RdP.step Hrb3.out hb102)
  clear Hrb3
  have Hrb3 := Hrb3102
  clear Hrb3102
  have HlX102 := Lib.hid (RdR.step HlX.out hb102)
  clear HlX
  have HlX := HlX102
  clear HlX102
  clear hb102
  clear hc c2b
  go_wp2_with fail
  have hc := comp_rd LA LB Ab1 Ab2 nb1 nb2 cb1 cb2 _ Hrb1.out Hrb2.out
  rw [Hlaw.out.1] at hc
  rw [Hlaw.out.2] at hc
  refine (hc).mono ?_
  rintro e w103 ⟨Ad, cd, rfl, hrd, hb103⟩
  have hbw103 := hbw102.trans (hb103.mono hbw102.size)
  have Hrb1103 := Lib.hid (RdP.step Hrb1.out hb103)
  clear Hrb1
  have Hrb1 := Hrb1103
  clear Hrb1103
  have Hrb2103 := Lib.hid (RdP.step Hrb2.out hb103)
  clear Hrb2
  have Hrb2 := Hrb2103
  clear Hrb2103
  have Hrb3103 := Lib.hid (RdP.step Hrb3.out hb103)
  clear Hrb3
  have Hrb3 := Hrb3103
  clear Hrb3103
  have HlX103 := Lib.hid (RdR.step HlX.out hb103)
  clear HlX
  have HlX := HlX103
  clear HlX103
  clear hb103
  clear hc
  have Hd := Lib.hid hrd
  clear hrd
  go_wp2_with fail
  have hc := do_any LC Ab3 nb3 cb3 _ S _ Hrb3.out (Nat.le_refl _) (by omega)
  rw [Hdo.out.1] at hc
  rw [Hdo.out.2] at hc
  refine (hc).mono ?_
  rintro e w104 ⟨rfl, hb104⟩
  have hbw104 := hbw103.trans (hb104.mono hbw103.size)
  have Hrb1104 := Lib.hid (RdP.step Hrb1.out hb104)
  clear Hrb1
  have Hrb1 := Hrb1104
  clear Hrb1104
  have Hrb2104 := Lib.hid (RdP.step Hrb2.out hb104)
  clear Hrb2
  have Hrb2 := Hrb2104
  clear Hrb2104
  have Hrb3104 := Lib.hid (RdP.step Hrb3.out hb104)
  clear Hrb3
  have Hrb3 := Hrb3104
  clear Hrb3104
  have HlX104 := Lib.hid (RdR.step HlX.out hb104)
  clear HlX
  have HlX := HlX104
  clear HlX104
  have Hd104 := Lib.hid (RdP.step Hd.out hb104)
  clear Hd
  have Hd := Hd104
  clear Hd104
  clear hb104
  clear hc
  go_wp2_with fail
  refine (same_true LC LC Ab3 Ad _ _ cb3 cd _ _ _ Hrb3.out Hd.out rfl).mono ?_
  rintro e w105 ⟨rfl, hb105⟩
  have hbw105 := hbw104.trans (hb105.mono hbw104.size)
  have Hrb1105 := Lib.hid (RdP.step Hrb1.out hb105)
  clear Hrb1
  have Hrb1 := Hrb1105
  clear Hrb1105
  have Hrb2105 := Lib.hid (RdP.step Hrb2.out hb105)
  clear Hrb2
  have Hrb2 := Hrb2105
  clear Hrb2105
  have Hrb3105 := Lib.hid (RdP.step Hrb3.out hb105)
  clear Hrb3
  have Hrb3 := Hrb3105
  clear Hrb3105
  have HlX105 := Lib.hid (RdR.step HlX.out hb105)
  clear HlX
  have HlX := HlX105
  clear HlX105
  have Hd105 := Lib.hid (RdP.step Hd.out hb105)
  clear Hd
  have Hd := Hd105
  clear Hd105
  clear hb105
  go_wp2_with fail
  go_ret
  exact ⟨rfl, hbw105⟩
theorem walk_RevsParts (base : ByteArray) (hs : base.size ≤ 140737488351232) (v : Value) (l : List Rv) (i : Int) (wi_ : (Lit.int .i64 i).wf = true) (j : Int) (wj : (Lit.int .i64 j).wf = true) (k : Int) (wk : (Lit.int .i64 k).wf = true) (w : World) (hx : IsRevs w v l) :
    Calls Try.prog 6 #[.string base, v, .int .i64 i, .int .i64 j, .int .i64 k] w fun e w' => e = .returned (.bool true) ∧ Below w.heap.size w w' := by
  obtain ⟨A, n, c, rfl, h⟩ := hx
  by_cases h1 : txE base l = 0
  · exact revsParts_ok base l A n c i j k hs w h h1
  · exact revsParts_err base l A n c i j k hs w h h1
end Go.Proofs.Ytchnbmdfpgkefaa
