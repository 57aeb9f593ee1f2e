/- Slices of deltas, opened, with a bound on their lengths. Contract of scrivref.SameClient, where both are the same. Contracts of scrivref.SameRev and SameRevs, where both are the same. -/
import Derived.Test.YtokngfinnieccaaO27
import Derived.Deep.Fields
import Derived.Test.YtokngfinnieccaaO6
import Derived.Test.YtokngfinnieccaaO20
import Derived.Test.YtokngfinnieccaaO4
namespace Go.Proofs.Ytokngfinnieccaa
open Go.ChangeShapes Go.WideShapes Go.RowKit Go.Joins Go.Deep
set_option linter.unusedVariables false
set_option linter.unusedSimpArgs false
set_option maxRecDepth 100000
set_option maxHeartbeats 4000000
def IsDeltasN (w : World) (v : Value) (l : List (List Pt)) : Prop := ∃ A n c ss, v = .slice A n c ∧ RdS w w.heap.size A n c ss ∧ RdD w w.heap.size ss l ∧ ∀ (k : Nat) s, ss[k]? = some s → s.2.1 ≤ 4398046511104
section
variable {H : Type} {enc : TypeId × Value → H} {w : World} {base : Nat} {spare : Nat → Bool} {held : Bool}
theorem read_partsM {fuel : Nat} {v : Value} {x : DataW H × List MemPlace} (h : DataW.trod enc Try.prog w base spare held fuel 25 [v] = some x) (hb : ∀ q ∈ DataW.weights Try.prog 25 x.1, q ≤ 140737488351232) : ∃ l A n c, v = .slice A n c ∧ RdP w w.heap.size A n c l ∧ n ≤ 4398046511104 := by
 obtain ⟨l, A, n, c, rfl, hr⟩ := read_parts h hb
 refine ⟨l, A, n, c, rfl, hr, ?_⟩
 rcases open_slice_fields Try.underlying25 Try.underlying88 (by kernel_rfl) (by kernel_rfl) h with ⟨hc, _⟩ | ⟨a, len, cap, m, D, Pl, hc, _, h1, _, h3, hx, _⟩
 · injection hc with hc _
   injection hc with e1 e2 e3
   omega
 · injection hc with hc _
   injection hc with e1 e2 e3
   have hl : len ≤ m := by rw [h3]; split <;> omega
   have hd : x.1 = .slice ((List.range len).map D) ((List.range (m - len)).map fun j => D (len + j)) := congrArg Prod.fst hx
   have hbo : Try.prog.bytesOf 88 = 32 := by kernel_rfl
   have := hb ((((List.range len).map D).length + ((List.range (m - len)).map fun j => D (len + j)).length) * 32) (by
    rw [hd]
    simp only [DataW.weights, Try.underlying25, hbo]
    exact List.mem_cons_self)
   simp only [List.length_map, List.length_range] at this
   omega
theorem open_deltasN_said {r : Reach} {b0 : Nat} {v : Value} {d : DataW H} {p : List MemPlace} (hv : Value.okWide Try.prog w r b0 40 v) (h : DataW.Trod enc Try.prog w base spare held 40 v d p) (_ : ∀ x ∈ p, x.block < w.heap.size)
 (hb : ∀ x ∈ DataW.weights Try.prog 40 d, x ≤ 140737488351232) : ∃ x, IsDeltasN w v x := by
 obtain ⟨A0, n0, c0, rfl⟩ := okWide_slice Try.underlying40 hv
 obtain ⟨fuel, hf⟩ := h
 rcases open_slice1 Try.underlying40 (by kernel_rfl) hf with ⟨hc, _⟩ | ⟨a, len, cap, m, n, V, D, Pl, hc, _, h1, h2, h3, hx, h4⟩
 · have hc := (List.cons.inj hc).1
   exact ⟨[], _, _, _, [], hc, ⟨rfl, Rd.nil _ _ _⟩, ⟨rfl, fun k s x h => by cases h⟩, fun k s h => by cases h⟩
 · have hc := (List.cons.inj hc).1
   have hl : len ≤ m := by rw [h3]; split <;> omega
   have hd : d = .slice ((List.range len).map D) ((List.range (m - len)).map fun j => D (len + j)) := congrArg Prod.fst hx
   have h5 : ∀ i, i < len → ∃ p : Sl × List Pt, w.cell? (a.add i) = some (slv p.1) ∧ RdP w w.heap.size p.1.1 p.1.2.1 p.1.2.2 p.2 ∧ p.1.2.1 ≤ 4398046511104 := by
    intro i hi
    obtain ⟨hcell, ht⟩ := h4 i (by omega)
    obtain ⟨l, A, n, c, e, hr, hn⟩ := read_partsM ht (fun q hq => hb q (by
     rw [hd]
     simp only [DataW.weights, Try.underlying40, List.mem_cons, List.mem_append]
     exact .inr (.inl (weights_all_mem hq (List.mem_map.2 ⟨i, List.mem_range.2 hi, rfl⟩)))))
    exact ⟨((A, n, c), l), by rw [hcell, e]; rfl, hr, hn⟩
   obtain ⟨l, hll, hp⟩ := pick_lt (((none, 0, 0), []) : Sl × List Pt) h5
   refine ⟨l.map (·.2), _, _, _, l.map (·.1), hc, rdS_of (m := m) (by rw [List.length_map, hll]) (by decide) h1 h2 fun i s hs => ?_, ⟨by simp, fun k s x e1 e2 => ?_⟩, fun k s e1 => ?_⟩
   · rw [List.getElem?_map] at hs
     obtain ⟨y, hy, e⟩ := Option.map_eq_some_iff.1 hs
     obtain ⟨hi, e2⟩ := List.getElem?_eq_some_iff.1 hy
     rw [← e, ← e2]
     exact (hp i hi).1
   · rw [List.getElem?_map] at e1 e2
     obtain ⟨y, hy, e⟩ := Option.map_eq_some_iff.1 e1
     obtain ⟨hi, e3⟩ := List.getElem?_eq_some_iff.1 hy
     rw [hy] at e2
     have e2 := Option.some.inj e2
     rw [← e, ← e2, ← e3]
     exact (hp k hi).2.1
   · rw [List.getElem?_map] at e1
     obtain ⟨y, hy, e⟩ := Option.map_eq_some_iff.1 e1
     obtain ⟨hi, e3⟩ := List.getElem?_eq_some_iff.1 hy
     rw [← e, ← e3]
     exact (hp k hi).2.2
end
end Go.Proofs.Ytokngfinnieccaa
namespace Go.Proofs.Ytokngfinnieccaa
open Go.ChangeShapes Go.WideShapes Go.RowKit
set_option linter.unusedVariables false
set_option linter.unusedSimpArgs false
set_option maxRecDepth 100000
set_option maxHeartbeats 4000000
theorem sameclient_true (a r sq : Int) (t : ByteArray) (f q : Bool) (S H : List Pt) (A1 A2 A3 A4 : Option Addr) (n1 n2 n3 n4 c1 c2 c3 c4 : Nat) (w : World) (h1 : RdP w w.heap.size A1 n1 c1 S) (h2 : RdP w w.heap.size A2 n2 c2 H) (h3 : RdP w w.heap.size A3 n3 c3 S) (h4 : RdP w w.heap.size A4 n4 c4 H) :
 Calls Try.prog 60 #[.agg #[.int .i64 a, .int .i64 r, .int .i64 sq, .string t, .bool f, .slice A1 n1 c1, .bool q, .slice A2 n2 c2], .agg #[.int .i64 a, .int .i64 r, .int .i64 sq, .string t, .bool f, .slice A3 n3 c3, .bool q, .slice A4 n4 c4]] w fun e w' => e = .returned (.bool true) ∧ Below w.heap.size w w' := by
 have hb1 := (Below.refl w.heap.size w).alloc (Nat.le_refl _) (.cells #[.int .i64 a, .int .i64 r, .int .i64 sq, .string t, .bool f, .slice A1 n1 c1, .bool q, .slice A2 n2 c2] 92)
 have hb0 := hb1.alloc hb1.size (.cells #[.int .i64 a, .int .i64 r, .int .i64 sq, .string t, .bool f, .slice A3 n3 c3, .bool q, .slice A4 n4 c4] 92)
 have k1 := (Blk.new w 92 #[.int .i64 a, .int .i64 r, .int .i64 sq, .string t, .bool f, .slice A1 n1 c1, .bool q, .slice A2 n2 c2]).alloc (.cells #[.int .i64 a, .int .i64 r, .int .i64 sq, .string t, .bool f, .slice A3 n3 c3, .bool q, .slice A4 n4 c4] 92)
 have k2 := Blk.new (w.alloc (.cells #[.int .i64 a, .int .i64 r, .int .i64 sq, .string t, .bool f, .slice A1 n1 c1, .bool q, .slice A2 n2 c2] 92)) 92 #[.int .i64 a, .int .i64 r, .int .i64 sq, .string t, .bool f, .slice A3 n3 c3, .bool q, .slice A4 n4 c4]
 rw [World.size_alloc] at k2
 have H1 := Lib.hid (h1.step hb0)
 have H2 := Lib.hid (h2.step hb0)
 have H3 := Lib.hid (h3.step hb0)
 have H4 := Lib.hid (h4.step hb0)
 go_enter Try.func60, Try.ntmps60
 go_upto_region 1 with (fail)
 obtain ⟨W, hW⟩ : ∃ W, (w.alloc (.cells #[.int .i64 a, .int .i64 r, .int .i64 sq, .string t, .bool f, .slice A1 n1 c1, .bool q, .slice A2 n2 c2] 92)).alloc (.cells #[.int .i64 a, .int .i64 r, .int .i64 sq, .string t, .bool f, .slice A3 n3 c3, .bool q, .slice A4 n4 c4] 92) = W := ⟨_, rfl⟩
 rw [hW] at hb0 k1 k2 H1 H2 H3 H4 ⊢
 clear hW hb1 h1 h2 h3 h4
 have hsW := hb0.size
 obtain ⟨g, hg⟩ : ∃ g, w.heap.size = g := ⟨_, rfl⟩
 rw [hg] at k1 k2 hsW ⊢
 have l1 := k1.lt
 have l2 := k2.lt
 have a0 := k1.cell 0
 have b0 := k2.cell 0
 have a1 := k1.cell 1
 have b1 := k2.cell 1
 have a2 := k1.cell 2
 have b2 := k2.cell 2
 have a3 := k1.cell 3
 have b3 := k2.cell 3
 have a4 := k1.cell 4
 have b4 := k2.cell 4
 have a5 := k1.cell 5
 have b5 := k2.cell 5
 have a6 := k1.cell 6
 have b6 := k2.cell 6
 have a7 := k1.cell 7
 have b7 := k2.cell 7
 go_wp2_with fail
 refine (same_true S S A1 A3 n1 n3 c1 c3 _ _ W H1.out H3.out rfl).mono ?_
 rintro e w1 ⟨rfl, hb⟩
 replace hb0 := hb0.trans (hb.mono (by omega))
 replace H2 := Lib.hid (H2.out.step hb)
 replace H4 := Lib.hid (H4.out.step hb)
 replace k1 := k1.below hb l1
 replace k2 := k2.below hb l2
 have hs1 := hb.size
 clear hb a0 a1 a2 a3 a4 a5 a6 a7 b0 b1 b2 b3 b4 b5 b6 b7
 have l1 := k1.lt
 have l2 := k2.lt
 have a6 := k1.cell 6
 have b6 := k2.cell 6
 have a7 := k1.cell 7
 have b7 := k2.cell 7
 go_wp2_with fail
 refine (same_true H H A2 A4 n2 n4 c2 c4 _ _ w1 H2.out H4.out rfl).mono ?_
 rintro e w2 ⟨rfl, hb⟩
 go_wp2_with fail
 go_ret
 exact ⟨rfl, hg ▸ hb0.trans (hb.mono (by omega))⟩
theorem samerev_true (a b : Int) (d : List Pt) (A A' : Option Addr) (n n' c c' : Nat) (w : World) (h : RdP w w.heap.size A n c d) (h' : RdP w w.heap.size A' n' c' d) :
 Calls Try.prog 97 #[.agg #[.int .i64 a, .int .i64 b, .slice A n c], .agg #[.int .i64 a, .int .i64 b, .slice A' n' c']] w fun e w' => e = .returned (.bool true) ∧ Below w.heap.size w w' := by
 have hb1 := (Below.refl w.heap.size w).alloc (Nat.le_refl _) (.cells #[.int .i64 a, .int .i64 b, .slice A n c] 30)
 have hb0 := hb1.alloc hb1.size (.cells #[.int .i64 a, .int .i64 b, .slice A' n' c'] 30)
 have hc := same_true d d A A' n n' c c' _ _ _ ((h.stepA (.cells #[.int .i64 a, .int .i64 b, .slice A n c] 30)).stepA (.cells #[.int .i64 a, .int .i64 b, .slice A' n' c'] 30)) ((h'.stepA (.cells #[.int .i64 a, .int .i64 b, .slice A n c] 30)).stepA (.cells #[.int .i64 a, .int .i64 b, .slice A' n' c'] 30)) rfl
 have Hc := Lib.hid hc
 clear hc h h' hb1
 go_enter Try.func97, Try.ntmps97
 go_wp2_with fail
 refine Hc.out.mono ?_
 rintro e w1 ⟨rfl, hb⟩
 have hw := hb0.trans (hb.mono hb0.size)
 go_wp2_with fail
 go_ret
 exact ⟨rfl, hw⟩
theorem eqrevs_true (l : List Rv) (A A' : Option Addr) (n n' c c' : Nat) (w : World) (h : RdR w w.heap.size A n c l) (h' : RdR w w.heap.size A' n' c' l) :
 Calls Try.prog 96 #[.slice A n c, .slice A' n' c', .func (.func 97) #[] #[]] w fun e w' => e = .returned (.bool true) ∧ Below w.heap.size w w' := by
 obtain rfl : n' = n := by rw [h'.1, h.1]
 have hle := h.le
 have Hn := Lib.hid h.1
 have H := Lib.hid h
 have H' := Lib.hid h'
 clear h h'
 go_enter Try.func96, Try.ntmps96
 go_wp2_with fail
 go_loopw [7, 8, 9, 17] (fun x y z i wr => ∃ (k : Nat), k ≤ n' ∧ i = .int .i64 k ∧ Hid (Below w.heap.size w wr)) (fun _ _ _ i _ => n' - (intOf i).toNat)
 case atStart => exact ⟨0, by omega, rfl, Lib.hid (Below.refl _ _)⟩
 case round =>
  obtain ⟨k, hk, rfl, hbw⟩ := hrel
  by_cases hlt : k < n'
  · have hkl : k < l.length := by have := Hn.out; omega
    obtain ⟨g, o, A1, n1, c1, rfl, hg, d0, d1, d2, hrd⟩ := (H.out.below hbw.out).at_ k hlt
    obtain ⟨g', o', A2, n2, c2, rfl, hg', d0', d1', d2', hrd'⟩ := (H'.out.below hbw.out).at_ k hlt
    obtain ⟨p, hp⟩ : ∃ p, p = l[k] := ⟨_, rfl⟩
    rw [← hp] at d0 d1 hrd d0' d1' hrd'
    clear hp
    obtain ⟨ra, rb, d⟩ := p
    simp only at d0 d1 d2 hrd d0' d1' d2' hrd'
    have hk0 : (0 : Int) ≤ (k : Int) := by omega
    have hkn : (k : Int) < (n' : Int) := by omega
    have hws := hbw.out.size
    have hgw : g < wr.heap.size := by omega
    have hgw' : g' < wr.heap.size := by omega
    have hb1 := (Below.refl wr.heap.size wr).alloc (Nat.le_refl _) (.cells #[.int .i64 ra, .int .i64 rb, .slice A1 n1 c1] 30)
    have hb0 := hb1.alloc hb1.size (.cells #[.int .i64 ra, .int .i64 rb, .slice A2 n2 c2] 30)
    have hc := samerev_true ra rb d A1 A2 n1 n2 c1 c2 _ (((hrd.more hws).stepA (.cells #[.int .i64 ra, .int .i64 rb, .slice A1 n1 c1] 30)).stepA (.cells #[.int .i64 ra, .int .i64 rb, .slice A2 n2 c2] 30)) (((hrd'.more hws).stepA (.cells #[.int .i64 ra, .int .i64 rb, .slice A1 n1 c1] 30)).stepA (.cells #[.int .i64 ra, .int .i64 rb, .slice A2 n2 c2] 30))
    have Hc := Lib.hid hc
    have Hb0 := Lib.hid hb0
    clear hc hrd hrd' hb1 hb0 hws
    go_wp2_with fail
    refine Hc.out.mono ?_
    rintro e w2 ⟨rfl, hb2⟩
    have hw2 := hbw.out.trans ((Hb0.out.trans (hb2.mono Hb0.out.size)).mono hbw.out.size)
    clear hb2
    go_wp2_with fail
    go_roundw
    case rel => exact ⟨k + 1, by omega, by go_num, Lib.hid hw2⟩
    case measure => simp [intOf]; omega
  · obtain rfl : k = n' := by omega
    go_wp2_with fail
    go_ret
    exact ⟨rfl, hbw.out⟩
theorem samerevs_true (l : List Rv) (A A' : Option Addr) (n n' c c' : Nat) (w : World) (h : RdR w w.heap.size A n c l) (h' : RdR w w.heap.size A' n' c' l) :
 Calls Try.prog 61 #[.slice A n c, .slice A' n' c'] w fun e w' => e = .returned (.bool true) ∧ Below w.heap.size w w' := by
 have hc := eqrevs_true l A A' n n' c c' w h h'
 have Hc := Lib.hid hc
 clear hc h h'
 go_enter Try.func61, Try.ntmps61
 go_wp2_with fail
 refine Hc.out.mono ?_
 rintro e w1 ⟨rfl, hb⟩
 go_wp2_with fail
 go_ret
 exact ⟨rfl, hb⟩
end Go.Proofs.Ytokngfinnieccaa
