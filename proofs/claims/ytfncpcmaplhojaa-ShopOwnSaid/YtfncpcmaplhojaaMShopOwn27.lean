/- Two archives beside each other in memory, and blocks that are neither's. Contracts of scrivref.SameRev and SameRevs, where both are the same. Histories, opened. opens a list of parts that may have room behind it (nil told apart). Histories, opened, with the bounds of their slices. A region that draws, whose ways come together behind it. -/
import Derived.Test.YtfncpcmaplhojaaMShopOwn26
import Derived.Test.YtfncpcmaplhojaaMShopOwn6
import Derived.Test.YtfncpcmaplhojaaMShopOwn10
import Derived.Test.YtfncpcmaplhojaaMShopOwn18
import Derived.Test.YtfncpcmaplhojaaMShopOwn11
import Derived.Test.YtfncpcmaplhojaaMShopOwn4
namespace Go.Proofs.Ytfncpcmaplhojaa
open Go.ChangeShapes Go.WideShapes Go.RowKit
set_option linter.unusedVariables false
set_option linter.unusedSimpArgs false
set_option maxRecDepth 100000
set_option maxHeartbeats 4000000

theorem ShMem.toM {w : World} {B q : Nat} {s : Sh} (h : ShMem w B q s) : ShM w (fun k => B ≤ k ∧ k < w.heap.size) q s none := by
  obtain ⟨h1, sl, ss, hk, hv⟩ := h
  refine ⟨⟨h1, hk.lt⟩, fun k h => h.2, sl, ss, none, hk, hv.base (Nat.zero_le _), fun k hk => ⟨own_ge hv.row k hk, own_lt hv.row k hk⟩, fun d hd k hk => ?_, rfl⟩
  obtain ⟨j, hj, rfl⟩ := List.getElem_of_mem hd
  have := (hv.ds j (by rw [← hv.len]; exact hj)).1
  exact World.ownsRow.lt this k hk
/-- as far as the first slot alone is used -/
theorem addG_none (s : Sh) (r : Rv) : addG s none r = if nextE s.log s.text.size r = 0 then addS s r else s := by
  unfold addG
  split
  · rfl
  · rfl
theorem addG_fill (l : List Rv) (s : Sh) (r : Rv) : addG (fillS s l) none r = fillS s (l ++ [r]) := by rw [addG_none, fillS_snoc]
theorem base_fill : ∀ (l : List Rv) (s : Sh), (fillS s l).log.base = s.log.base
  | [], s => rfl
  | r :: l, s => by
    unfold fillS
    rw [base_fill l]
    split
    · rfl
    · rfl
/-- two archives, and blocks X that are neither's -/
def TwoX (w : World) (B : Nat) (X : Nat → Prop) (qs qt : Nat) (s t : Sh) : Prop :=
  ∃ Fs Ft : Nat → Prop, ShM w Fs qs s none ∧ ShM w Ft qt t none ∧ (∀ k, Fs k → ¬ Ft k) ∧ (∀ k, Fs k → B ≤ k) ∧ ∀ k, X k → k < w.heap.size ∧ ¬ Fs k ∧ ¬ Ft k
theorem TwoX.less {w : World} {B qs qt : Nat} {X Y : Nat → Prop} {s t : Sh} (h : TwoX w B X qs qt s t) (hY : ∀ k, Y k → X k) : TwoX w B Y qs qt s t := by
  obtain ⟨Fs, Ft, h1, h2, h3, h4, h5⟩ := h
  exact ⟨Fs, Ft, h1, h2, h3, h4, fun k hk => h5 k (hY k hk)⟩
/-- what has been made since is neither's -/
theorem TwoX.made {w w' : World} {B qs qt : Nat} {X : Nat → Prop} {s t : Sh} (h : TwoX w B X qs qt s t) (hb : Below w.heap.size w w') : TwoX w' B (fun k => X k ∨ (w.heap.size ≤ k ∧ k < w'.heap.size)) qs qt s t := by
  obtain ⟨Fs, Ft, h1, h2, h3, h4, h5⟩ := h
  refine ⟨Fs, Ft, h1.below hb, h2.below hb, h3, h4, fun k hk => ?_⟩
  have := hb.size
  rcases hk with hk | ⟨a, b⟩
  · obtain ⟨p, q, r⟩ := h5 k hk
    exact ⟨by omega, q, r⟩
  · exact ⟨b, fun x => by have := h1.lt k x; omega, fun x => by have := h2.lt k x; omega⟩
theorem TwoX.only {w w' : World} {B qs qt : Nat} {X S : Nat → Prop} {s t : Sh} (h : TwoX w B X qs qt s t) (ho : Only w w' S) (hS : ∀ k, S k → X k) : TwoX w' B X qs qt s t := by
  obtain ⟨Fs, Ft, h1, h2, h3, h4, h5⟩ := h
  exact ⟨Fs, Ft, h1.only ho fun k hk hs => (h5 k (hS k hs)).2.1 hk, h2.only ho fun k hk hs => (h5 k (hS k hs)).2.2 hk, h3, h4, fun k hk => by have := h5 k hk; have := ho.2.2.2.1; exact ⟨by omega, (h5 k hk).2⟩⟩
theorem TwoX.add {w : World} {B qs qt : Nat} {X : Nat → Prop} {s t : Sh} (h : TwoX w B X qs qt s t) (h1 : Sh1 s) (hB : B ≤ w.heap.size) (a b : Int) (d : List Pt) (A : Option Addr) (n c : Nat) (hd : RdP w w.heap.size A n c d) :
    Calls Try.prog 47 #[.pointer (some ⟨qs, 0, none⟩), .agg #[.int .i64 a, .int .i64 b, .slice A n c]] w fun e w' => (∃ u : Value, e = .returned u) ∧ TwoX w' B X qs qt (addG s none (a, b, d)) t ∧ Only w w' (fun k => ¬ X k) ∧ Below B w w' := by
  obtain ⟨Fs, Ft, h1', h2, h3, h4, h5⟩ := h
  refine (sadd_M qs s none Fs a b d A n c w h1' h1.hg (by rw [h1.a0]; exact Nat.zero_le _) h1.look (fun h => by simp [whM] at h) hd).mono ?_
  rintro e w' ⟨rfl, hm, ho⟩
  refine ⟨⟨_, rfl⟩, ⟨_, Ft, hm, h2.only ho (fun k hk hs => h3 k hs hk), fun k hk hf => ?_, fun k hk => ?_, fun k hk => ?_⟩, ho.mono (fun k _ hf hx => (h5 k hx).2.1 hf), ho.below hB h4⟩
  · rcases hk with hk | hk
    · exact h3 k hk hf
    · have := h2.lt k hf; omega
  · rcases hk with hk | hk
    · exact h4 k hk
    · omega
  · obtain ⟨p, q, r⟩ := h5 k hk
    have := ho.2.2.2.1
    refine ⟨by omega, ?_, r⟩
    rintro (x | x)
    · exact q x
    · omega
theorem TwoX.revs {w : World} {B qs qt : Nat} {X : Nat → Prop} {s t : Sh} (h : TwoX w B X qs qt s t) (h1 : Sh1 s) (h0 : s.log.base = 0) :
    Calls Try.prog 48 #[.pointer (some ⟨qs, 0, none⟩), .int .i64 0] w fun e w' => ∃ (sl' : Sl) (ss : List Sl), e = .returned (.tuple #[.slice sl'.1 sl'.2.1 sl'.2.2, .int .i64 0]) ∧ OwnV w' w.heap.size (.slice sl'.1 sl'.2.1 sl'.2.2) ss s.log.revs ∧ Below w.heap.size w w' := by
  obtain ⟨Fs, Ft, h1', h2, h3, h4, h5⟩ := h
  exact srevs_M qs s none Fs 0 0 w h1' h1.hg (by rw [h0]; rfl) (Nat.zero_le _)
theorem TwoX.swap {w : World} {B qs qt : Nat} {X : Nat → Prop} {s t : Sh} (h : TwoX w B X qs qt s t) : ∃ B', TwoX w B' X qt qs t s := by
  obtain ⟨Fs, Ft, h1, h2, h3, h4, h5⟩ := h
  exact ⟨0, Ft, Fs, h2, h1, fun k a b => h3 k b a, fun k _ => Nat.zero_le _, fun k hk => ⟨(h5 k hk).1, (h5 k hk).2.2, (h5 k hk).2.1⟩⟩
theorem TwoX.disk {w : World} {B qs qt : Nat} {X : Nat → Prop} {s t : Sh} (h : TwoX w B X qs qt s t) :
    Calls Try.prog 49 #[.pointer (some ⟨qs, 0, none⟩)] w fun e w' => e = .returned (dvl s.d0 s.d1) ∧ Below w.heap.size w w' := by
  obtain ⟨Fs, Ft, h1', h2, h3, h4, h5⟩ := h
  exact sdisk_M qs s none Fs w h1'
theorem fill_a : nextE shN.log shN.text.size (1, 1, [(2, 0, ⟨#[97]⟩)]) = 0 := by decide
theorem fill_ah : (fillS shN [(1, 1, [(2, 0, ⟨#[97]⟩)])]).log.base + ((fillS shN [(1, 1, [(2, 0, ⟨#[97]⟩)])]).log.revs.length : Int) = 1 := by
  simp only [fillS]
  rw [if_pos fill_a]
  rfl
end Go.Proofs.Ytfncpcmaplhojaa
namespace Go.Proofs.Ytfncpcmaplhojaa
open Go.ChangeShapes Go.WideShapes Go.RowKit
set_option linter.unusedVariables false
set_option linter.unusedSimpArgs false
set_option maxRecDepth 100000
set_option maxHeartbeats 4000000

theorem samerev_true (a b : Int) (d : List Pt) (A A' : Option Addr) (n n' c c' : Nat) (w : World) (h : RdP w w.heap.size A n c d) (h' : RdP w w.heap.size A' n' c' d) :
    Calls Try.prog 27 #[.agg #[.int .i64 a, .int .i64 b, .slice A n c], .agg #[.int .i64 a, .int .i64 b, .slice A' n' c']] w fun e w' => e = .returned (.bool true) ∧ Below w.heap.size w w' := by
  have hb1 := (Below.refl w.heap.size w).alloc (Nat.le_refl _) (.cells #[.int .i64 a, .int .i64 b, .slice A n c] 29)
  have hb0 := hb1.alloc hb1.size (.cells #[.int .i64 a, .int .i64 b, .slice A' n' c'] 29)
  have hc := same_true d d A A' n n' c c' _ _ _ ((h.stepA (.cells #[.int .i64 a, .int .i64 b, .slice A n c] 29)).stepA (.cells #[.int .i64 a, .int .i64 b, .slice A' n' c'] 29)) ((h'.stepA (.cells #[.int .i64 a, .int .i64 b, .slice A n c] 29)).stepA (.cells #[.int .i64 a, .int .i64 b, .slice A' n' c'] 29)) rfl
  have Hc := Lib.hid hc
  clear hc h h' hb1
  go_enter Try.func27, Try.ntmps27
  go_wp2_with fail
  refine Hc.out.mono ?_
  rintro e w1 ⟨rfl, hb⟩
  have hw := hb0.trans (hb.mono hb0.size)
  go_wp2_with fail
  go_ret
  exact ⟨rfl, hw⟩
theorem eqrevs_true (l : List Rv) (A A' : Option Addr) (n n' c c' : Nat) (w : World) (h : RdR w w.heap.size A n c l) (h' : RdR w w.heap.size A' n' c' l) :
    Calls Try.prog 77 #[.slice A n c, .slice A' n' c', .func (.func 27) #[] #[]] w fun e w' => e = .returned (.bool true) ∧ Below w.heap.size w w' := by
  obtain rfl : n' = n := by rw [h'.1, h.1]
  have hle := h.le
  have Hn := Lib.hid h.1
  have H := Lib.hid h
  have H' := Lib.hid h'
  clear h h'
  go_enter Try.func77, Try.ntmps77
  go_wp2_with fail
  go_loopw [7, 8, 9, 17] (fun x y z i wr => ∃ (k : Nat), k ≤ n' ∧ i = .int .i64 k ∧ Hid (Below w.heap.size w wr)) (fun _ _ _ i _ => n' - (intOf i).toNat)
  case atStart => exact ⟨0, by omega, rfl, Lib.hid (Below.refl _ _)⟩
  case round =>
    obtain ⟨k, hk, rfl, hbw⟩ := hrel
    by_cases hlt : k < n'
    · have hkl : k < l.length := by have := Hn.out; omega
      obtain ⟨g, o, A1, n1, c1, rfl, hg, d0, d1, d2, hrd⟩ := (H.out.below hbw.out).at_ k hlt
      obtain ⟨g', o', A2, n2, c2, rfl, hg', d0', d1', d2', hrd'⟩ := (H'.out.below hbw.out).at_ k hlt
      obtain ⟨p, hp⟩ : ∃ p, p = l[k] := ⟨_, rfl⟩
      rw [← hp] at d0 d1 hrd d0' d1' hrd'
      clear hp
      obtain ⟨ra, rb, d⟩ := p
      simp only at d0 d1 d2 hrd d0' d1' d2' hrd'
      have hk0 : (0 : Int) ≤ (k : Int) := by omega
      have hkn : (k : Int) < (n' : Int) := by omega
      have hws := hbw.out.size
      have hgw : g < wr.heap.size := by omega
      have hgw' : g' < wr.heap.size := by omega
      have hb1 := (Below.refl wr.heap.size wr).alloc (Nat.le_refl _) (.cells #[.int .i64 ra, .int .i64 rb, .slice A1 n1 c1] 29)
      have hb0 := hb1.alloc hb1.size (.cells #[.int .i64 ra, .int .i64 rb, .slice A2 n2 c2] 29)
      have hc := samerev_true ra rb d A1 A2 n1 n2 c1 c2 _ (((hrd.more hws).stepA (.cells #[.int .i64 ra, .int .i64 rb, .slice A1 n1 c1] 29)).stepA (.cells #[.int .i64 ra, .int .i64 rb, .slice A2 n2 c2] 29)) (((hrd'.more hws).stepA (.cells #[.int .i64 ra, .int .i64 rb, .slice A1 n1 c1] 29)).stepA (.cells #[.int .i64 ra, .int .i64 rb, .slice A2 n2 c2] 29))
      have Hc := Lib.hid hc
      have Hb0 := Lib.hid hb0
      clear hc hrd hrd' hb1 hb0 hws
      go_wp2_with fail
      refine Hc.out.mono ?_
      rintro e w2 ⟨rfl, hb2⟩
      have hw2 := hbw.out.trans ((Hb0.out.trans (hb2.mono Hb0.out.size)).mono hbw.out.size)
      clear hb2
      go_wp2_with fail
      go_roundw
      case rel => exact ⟨k + 1, by omega, by go_num, Lib.hid hw2⟩
      case measure => simp [intOf]; omega
    · obtain rfl : k = n' := by omega
      go_wp2_with fail
      go_ret
      exact ⟨rfl, hbw.out⟩
theorem samerevs_true (l : List Rv) (A A' : Option Addr) (n n' c c' : Nat) (w : World) (h : RdR w w.heap.size A n c l) (h' : RdR w w.heap.size A' n' c' l) :
    Calls Try.prog 39 #[.slice A n c, .slice A' n' c'] w fun e w' => e = .returned (.bool true) ∧ Below w.heap.size w w' := by
  have hc := eqrevs_true l A A' n n' c c' w h h'
  have Hc := Lib.hid hc
  clear hc h h'
  go_enter Try.func39, Try.ntmps39
  go_wp2_with fail
  refine Hc.out.mono ?_
  rintro e w1 ⟨rfl, hb⟩
  go_wp2_with fail
  go_ret
  exact ⟨rfl, hb⟩
end Go.Proofs.Ytfncpcmaplhojaa
namespace Go.Proofs.Ytfncpcmaplhojaa
open Go.ChangeShapes Go.WideShapes Go.RowKit Go.Joins Go.Deep
set_option linter.unusedVariables false
set_option linter.unusedSimpArgs false
set_option maxRecDepth 100000

/-- a history as it came in -/
def IsRevs (w : World) (v : Value) (l : List Rv) : Prop := ∃ A n c, v = .slice A n c ∧ RdR w w.heap.size A n c l
section
variable {H : Type} {enc : TypeId × Value → H} {w : World} {base : Nat} {spare : Nat → Bool} {held : Bool}
theorem read_revs {fuel : Nat} {v : Value} {x : DataW H × List MemPlace} (h : DataW.trod enc Try.prog w base spare held fuel 22 [v] = some x) (hb : ∀ n ∈ DataW.weights Try.prog 22 x.1, n ≤ 140737488351232) : ∃ l, IsRevs w v l := by
  rcases open_slice_fields Try.underlying22 Try.underlying29 (by kernel_rfl) (by kernel_rfl) h with ⟨hc, _⟩ | ⟨a, len, cap, m, D, Pl, hc, _, h1, h2, h3, hx, h4⟩
  · simp only [List.cons.injEq, and_true] at hc
    exact ⟨[], _, _, _, hc, RdR.nil _ _⟩
  · simp only [List.cons.injEq, and_true] at hc
    have hl : len ≤ m := by rw [h3]; split <;> omega
    subst hx
    have h5 : ∀ i, i < len → ∃ p : Rv × Sl, w.cell? (a.add (i * 3)) = some (.int .i64 p.1.1) ∧ w.cell? (a.add (i * 3 + 1)) = some (.int .i64 p.1.2.1) ∧ w.cell? (a.add (i * 3 + 2)) = some (.slice p.2.1 p.2.2.1 p.2.2.2) ∧ RdP w w.heap.size p.2.1 p.2.2.1 p.2.2.2 p.1.2.2 := by
      intro i hi
      obtain ⟨ys, n, hD, _, hyl, hf⟩ := h4 i (by omega)
      obtain ⟨v0, y0, c0, e0, t0⟩ := hf 0 _ rfl
      obtain ⟨v1, y1, c1, e1, t1⟩ := hf 1 _ rfl
      obtain ⟨v2, y2, c2, e2, t2⟩ := hf 2 _ rfl
      obtain ⟨k0, z0, rfl, _⟩ := DataW.trod_int Try.underlying3 t0
      obtain ⟨k1, z1, rfl, _⟩ := DataW.trod_int Try.underlying3 t1
      simp only [List.cons.injEq, and_true] at z0 z1
      subst z0 z1
      match ys, hyl with
      | [a0, a1, a2], _ =>
        simp only [List.getElem?_cons_zero, List.getElem?_cons_succ, Option.some.injEq] at e0 e1 e2
        subst e0 e1 e2
        obtain ⟨d, A2, n2, c2', rfl, hr2⟩ := read_parts t2 (fun q hq => hb q (by
          have hmem : q ∈ DataW.weights Try.prog 29 (D i) := by
            rw [hD]
            simp only [DataW.weights, Try.underlying29, List.map_cons, List.map_nil, DataW.weightsEach, List.nil_append, List.append_nil, List.mem_append]
            exact hq
          simp only [DataW.weights, Try.underlying22, List.mem_cons, List.mem_append]
          exact .inr (.inl (weights_all_mem hmem (List.mem_map.2 ⟨i, List.mem_range.2 hi, rfl⟩)))))
        exact ⟨((k0, k1, d), (A2, n2, c2')), c0, c1, c2, hr2⟩
    obtain ⟨l, hll, hp⟩ := pick_lt (((0, 0, []), (none, 0, 0)) : Rv × Sl) h5
    refine ⟨l.map (·.1), _, len, cap, hc, by rw [List.length_map]; exact hll.symm, l.map (·.2), by simp, rd_of (by omega) h1 h2 (by rw [rc_len _ _ (by simp), List.length_map, hll]) fun j u hj => ?_, fun k hk => ?_⟩
    · have hrl := rc_len (l.map (·.1)) (l.map (·.2)) (by simp)
      have hjl : j < l.length * 3 := by
        rcases Nat.lt_or_ge j (rc (l.map (·.1)) (l.map (·.2))).length with hlt | hge
        · rw [hrl, List.length_map] at hlt; exact hlt
        · rw [List.getElem?_eq_none hge] at hj; cases hj
      obtain ⟨q0, q1, q2⟩ := rc_at (l.map (·.1)) (l.map (·.2)) (by simp) (j / 3) (by rw [List.length_map]; omega)
      obtain ⟨b0, b1, b2, _⟩ := hp (j / 3) (by omega)
      simp only [List.getElem_map] at q0 q1 q2
      have e : j = j / 3 * 3 + j % 3 := by omega
      rcases (show j % 3 = 0 ∨ j % 3 = 1 ∨ j % 3 = 2 by omega) with h | h | h
      · rw [e, h, Nat.add_zero] at hj ⊢; rw [q0] at hj; rw [b0]; exact hj
      · rw [e, h] at hj ⊢; rw [q1] at hj; rw [b1]; exact hj
      · rw [e, h] at hj ⊢; rw [q2] at hj; rw [b2]; exact hj
    · rw [List.length_map] at hk
      have := (hp k hk).2.2.2
      simpa using this
theorem open_revs_said {r : Reach} {b0 : Nat} {v : Value} {d : DataW H} {p : List MemPlace} (hv : Value.okWide Try.prog w r b0 22 v) (h : DataW.Trod enc Try.prog w base spare held 22 v d p) (_ : ∀ x ∈ p, x.block < w.heap.size)
    (hb : ∀ x ∈ DataW.weights Try.prog 22 d, x ≤ 140737488351232) : ∃ x, IsRevs w v x := by
  obtain ⟨A, n, c, rfl⟩ := okWide_slice Try.underlying22 hv
  obtain ⟨fuel, hf⟩ := h
  exact read_revs hf hb
end
end Go.Proofs.Ytfncpcmaplhojaa
namespace Go.Proofs.Ytfncpcmaplhojaa
open Go.ChangeShapes Go.WideShapes Go.RowKit Go.Joins Go.Deep
set_option linter.unusedVariables false
set_option linter.unusedSimpArgs false
set_option maxRecDepth 100000
set_option maxHeartbeats 4000000
section
variable {H : Type} {enc : TypeId × Value → H} {w : World} {base : Nat} {spare : Nat → Bool} {held : Bool}
theorem open_partsN_said {r : Reach} {b0 : Nat} {v : Value} {d : DataW H} {p : List MemPlace} (hv : Value.okWide Try.prog w r b0 27 v) (h : DataW.Trod enc Try.prog w base spare held 27 v d p) (h2 : ∀ x ∈ p, x.block < w.heap.size)
    (hb : ∀ x ∈ DataW.weights Try.prog 27 d, x ≤ 140737488351232) : ∃ x, IsPartsN w v x := by
  obtain ⟨x, A, n, c, rfl, hr⟩ := open_parts_said hv h h2 hb
  refine ⟨x, A, n, c, rfl, hr, ?_⟩
  obtain ⟨fuel, hf⟩ := h
  rcases open_slice_fields Try.underlying27 Try.underlying45 (by kernel_rfl) (by kernel_rfl) hf with ⟨hc, _⟩ | ⟨a, len, cap, m, D, Pl, hc, _, h1, _, h3, hx, _⟩
  · injection hc with hc _
    injection hc with e1 e2 e3
    exact ⟨by omega, fun _ => e3⟩
  · injection hc with hc _
    injection hc with e1 e2 e3
    have hl : len ≤ m := by rw [h3]; split <;> omega
    have hd : d = .slice ((List.range len).map D) ((List.range (m - len)).map fun j => D (len + j)) := congrArg Prod.fst hx
    have hbo : Try.prog.bytesOf 45 = 32 := by kernel_rfl
    have := hb ((((List.range len).map D).length + ((List.range (m - len)).map fun j => D (len + j)).length) * 32) (by
      rw [hd]
      simp only [DataW.weights, Try.underlying27, hbo]
      exact List.mem_cons_self)
    simp only [List.length_map, List.length_range] at this
    exact ⟨by omega, fun e => by rw [e1] at e; cases e⟩
end
end Go.Proofs.Ytfncpcmaplhojaa
namespace Go.Proofs.Ytfncpcmaplhojaa
open Go.ChangeShapes Go.WideShapes Go.RowKit Go.Joins Go.Deep
set_option linter.unusedVariables false
set_option linter.unusedSimpArgs false
set_option maxRecDepth 100000

/-- a history as it is read: nil deltas have no room -/
def RdRN (w : World) (B : Nat) (A : Option Addr) (n c : Nat) (l : List Rv) : Prop :=
  n = l.length ∧ ∃ ss : List Sl, ∃ hs : ss.length = l.length, Rd w B 3 A n c (rc l ss) ∧ ∀ k (h : k < l.length), (RdP w B (ss[k]'(by omega)).1 (ss[k]'(by omega)).2.1 (ss[k]'(by omega)).2.2 l[k].2.2 ∧ (ss[k]'(by omega)).2.1 ≤ 4398046511104 ∧ ((ss[k]'(by omega)).1 = none → (ss[k]'(by omega)).2.2 = 0))
theorem RdRN.rd {w : World} {B n c : Nat} {A : Option Addr} {l : List Rv} (h : RdRN w B A n c l) : RdR w B A n c l := by
  obtain ⟨h0, ss, hs, hr, hp⟩ := h
  exact ⟨h0, ss, hs, hr, fun k hk => (hp k hk).1⟩
theorem RdRN.below {w w' : World} {B n c : Nat} {A : Option Addr} {l : List Rv} (h : RdRN w B A n c l) (hb : Below B w w') : RdRN w' B A n c l := by
  obtain ⟨h0, ss, hs, hr, hp⟩ := h
  exact ⟨h0, ss, hs, hr.below hb, fun k hk => ⟨(hp k hk).1.below hb, (hp k hk).2⟩⟩
theorem RdRN.at_ {w : World} {B n c : Nat} {A : Option Addr} {l : List Rv} (h : RdRN w B A n c l) (k : Nat) (hk : k < n) :
    ∃ b o A1 n1 c1, A = some ⟨b, o, none⟩ ∧ b < B ∧ w.cell? ⟨b, o + k * 3, none⟩ = some (.int .i64 (l[k]'(by have := h.1; omega)).1) ∧ w.cell? ⟨b, o + k * 3 + 1, none⟩ = some (.int .i64 (l[k]'(by have := h.1; omega)).2.1) ∧
      w.cell? ⟨b, o + k * 3 + 2, none⟩ = some (.slice A1 n1 c1) ∧ RdP w B A1 n1 c1 (l[k]'(by have := h.1; omega)).2.2 ∧ n1 ≤ 4398046511104 ∧ (A1 = none → c1 = 0) := by
  obtain ⟨h0, ss, hs, hr, hp⟩ := h
  obtain ⟨b, o, e, hb, hc⟩ := hr.2.2.2 (by omega)
  obtain ⟨q0, q1, q2⟩ := rc_at l ss hs k (by omega)
  have := hp k (by omega)
  refine ⟨b, o, _, _, _, e, hb, hc _ _ q0, ?_, ?_, this⟩
  · have := hc _ _ q1
    rwa [← Nat.add_assoc] at this
  · have := hc _ _ q2
    rwa [← Nat.add_assoc] at this
/-- a history as it came in -/
def IsRevsN (w : World) (v : Value) (l : List Rv) : Prop := ∃ A n c, v = .slice A n c ∧ RdRN w w.heap.size A n c l ∧ n ≤ 3518437208880
section
variable {H : Type} {enc : TypeId × Value → H} {w : World} {base : Nat} {spare : Nat → Bool} {held : Bool}
theorem read_partsN {fuel : Nat} {v : Value} {x : DataW H × List MemPlace} (h : DataW.trod enc Try.prog w base spare held fuel 27 [v] = some x) (hb : ∀ n ∈ DataW.weights Try.prog 27 x.1, n ≤ 140737488351232) : ∃ l, IsPartsN w v l := by
  obtain ⟨l, A, n, c, rfl, hr⟩ := read_parts h hb
  refine ⟨l, A, n, c, rfl, hr, ?_⟩
  rcases open_slice_fields Try.underlying27 Try.underlying45 (by kernel_rfl) (by kernel_rfl) h with ⟨hc, _⟩ | ⟨a, len, cap, m, D, Pl, hc, _, h1, _, h3, hx, _⟩
  · injection hc with hc _
    injection hc with e1 e2 e3
    exact ⟨by omega, fun _ => e3⟩
  · injection hc with hc _
    injection hc with e1 e2 e3
    have hl : len ≤ m := by rw [h3]; split <;> omega
    have hd : x.1 = .slice ((List.range len).map D) ((List.range (m - len)).map fun j => D (len + j)) := congrArg Prod.fst hx
    have hbo : Try.prog.bytesOf 45 = 32 := by kernel_rfl
    have := hb ((((List.range len).map D).length + ((List.range (m - len)).map fun j => D (len + j)).length) * 32) (by
      rw [hd]
      simp only [DataW.weights, Try.underlying27, hbo]
      exact List.mem_cons_self)
    simp only [List.length_map, List.length_range] at this
    exact ⟨by omega, fun e => by rw [e1] at e; cases e⟩
theorem read_revsN {fuel : Nat} {v : Value} {x : DataW H × List MemPlace} (h : DataW.trod enc Try.prog w base spare held fuel 22 [v] = some x) (hb : ∀ n ∈ DataW.weights Try.prog 22 x.1, n ≤ 140737488351232) : ∃ l, IsRevsN w v l := by
  rcases open_slice_fields Try.underlying22 Try.underlying29 (by kernel_rfl) (by kernel_rfl) h with ⟨hc, _⟩ | ⟨a, len, cap, m, D, Pl, hc, _, h1, h2, h3, hx, h4⟩
  · simp only [List.cons.injEq, and_true] at hc
    exact ⟨[], _, _, _, hc, ⟨rfl, [], rfl, Rd.nil _ _ _, fun k h => absurd h (by simp)⟩, by decide⟩
  · simp only [List.cons.injEq, and_true] at hc
    have hl : len ≤ m := by rw [h3]; split <;> omega
    subst hx
    have hbo : Try.prog.bytesOf 29 = 40 := by kernel_rfl
    have hlen := hb ((((List.range len).map D).length + ((List.range (m - len)).map fun j => D (len + j)).length) * 40) (by
      simp only [DataW.weights, Try.underlying22, hbo]
      exact List.mem_cons_self)
    simp only [List.length_map, List.length_range] at hlen
    have h5 : ∀ i, i < len → ∃ p : Rv × Sl, w.cell? (a.add (i * 3)) = some (.int .i64 p.1.1) ∧ w.cell? (a.add (i * 3 + 1)) = some (.int .i64 p.1.2.1) ∧ w.cell? (a.add (i * 3 + 2)) = some (.slice p.2.1 p.2.2.1 p.2.2.2) ∧ (RdP w w.heap.size p.2.1 p.2.2.1 p.2.2.2 p.1.2.2 ∧ p.2.2.1 ≤ 4398046511104 ∧ (p.2.1 = none → p.2.2.2 = 0)) := by
      intro i hi
      obtain ⟨ys, n, hD, _, hyl, hf⟩ := h4 i (by omega)
      obtain ⟨v0, y0, c0, e0, t0⟩ := hf 0 _ rfl
      obtain ⟨v1, y1, c1, e1, t1⟩ := hf 1 _ rfl
      obtain ⟨v2, y2, c2, e2, t2⟩ := hf 2 _ rfl
      obtain ⟨k0, z0, rfl, _⟩ := DataW.trod_int Try.underlying3 t0
      obtain ⟨k1, z1, rfl, _⟩ := DataW.trod_int Try.underlying3 t1
      simp only [List.cons.injEq, and_true] at z0 z1
      subst z0 z1
      match ys, hyl with
      | [a0, a1, a2], _ =>
        simp only [List.getElem?_cons_zero, List.getElem?_cons_succ, Option.some.injEq] at e0 e1 e2
        subst e0 e1 e2
        obtain ⟨d, A2, n2, c2', rfl, hr2⟩ := read_partsN t2 (fun q hq => hb q (by
          have hmem : q ∈ DataW.weights Try.prog 29 (D i) := by
            rw [hD]
            simp only [DataW.weights, Try.underlying29, List.map_cons, List.map_nil, DataW.weightsEach, List.nil_append, List.append_nil, List.mem_append]
            exact hq
          simp only [DataW.weights, Try.underlying22, List.mem_cons, List.mem_append]
          exact .inr (.inl (weights_all_mem hmem (List.mem_map.2 ⟨i, List.mem_range.2 hi, rfl⟩)))))
        exact ⟨((k0, k1, d), (A2, n2, c2')), c0, c1, c2, hr2⟩
    obtain ⟨l, hll, hp⟩ := pick_lt (((0, 0, []), (none, 0, 0)) : Rv × Sl) h5
    refine ⟨l.map (·.1), _, len, cap, hc, ⟨by rw [List.length_map]; exact hll.symm, l.map (·.2), by simp, rd_of (by omega) h1 h2 (by rw [rc_len _ _ (by simp), List.length_map, hll]) fun j u hj => ?_, fun k hk => ?_⟩, by omega⟩
    · have hrl := rc_len (l.map (·.1)) (l.map (·.2)) (by simp)
      have hjl : j < l.length * 3 := by
        rcases Nat.lt_or_ge j (rc (l.map (·.1)) (l.map (·.2))).length with hlt | hge
        · rw [hrl, List.length_map] at hlt; exact hlt
        · rw [List.getElem?_eq_none hge] at hj; cases hj
      obtain ⟨q0, q1, q2⟩ := rc_at (l.map (·.1)) (l.map (·.2)) (by simp) (j / 3) (by rw [List.length_map]; omega)
      obtain ⟨b0, b1, b2, _⟩ := hp (j / 3) (by omega)
      simp only [List.getElem_map] at q0 q1 q2
      have e : j = j / 3 * 3 + j % 3 := by omega
      rcases (show j % 3 = 0 ∨ j % 3 = 1 ∨ j % 3 = 2 by omega) with h | h | h
      · rw [e, h, Nat.add_zero] at hj ⊢; rw [q0] at hj; rw [b0]; exact hj
      · rw [e, h] at hj ⊢; rw [q1] at hj; rw [b1]; exact hj
      · rw [e, h] at hj ⊢; rw [q2] at hj; rw [b2]; exact hj
    · rw [List.length_map] at hk
      have := (hp k hk).2.2.2
      simpa using this
theorem open_revsN_said {r : Reach} {b0 : Nat} {v : Value} {d : DataW H} {p : List MemPlace} (hv : Value.okWide Try.prog w r b0 22 v) (h : DataW.Trod enc Try.prog w base spare held 22 v d p) (_ : ∀ x ∈ p, x.block < w.heap.size)
    (hb : ∀ x ∈ DataW.weights Try.prog 22 d, x ≤ 140737488351232) : ∃ x, IsRevsN w v x := by
  obtain ⟨A, n, c, rfl⟩ := okWide_slice Try.underlying22 hv
  obtain ⟨fuel, hf⟩ := h
  exact read_revsN hf hb
end
end Go.Proofs.Ytfncpcmaplhojaa
namespace Go.Proofs.Ytfncpcmaplhojaa
open Go.ChangeShapes Go.WideShapes Go.RowKit
set_option linter.unusedVariables false
set_option linter.unusedSimpArgs false
set_option maxRecDepth 100000
set_option maxHeartbeats 4000000

section
variable {P : Program} {ops : Array Oper} {Q Q' : Exit → Act → World → Prop} {md : Region.Mode} {S : World → Prop}
theorem oper_monoQ {o : Oper} {a : Act} {w : World} {K : Act → World → Prop} (h : ∀ e a w, e ≠ .normal → Q' e a w → Q e a w) (hh : o.wp P a w K Q') : o.wp P a w K Q := by
  unfold Oper.wp at *
  generalize (execOp a.eval o).run P w = r at *
  cases r with
  | ok n w' =>
    cases n <;> simp only [Oper.upon] at hh ⊢ <;>
      first
        | exact hh
        | exact Calls.mono hh (fun e w'' he => by
            cases e with
            | returned v => exact he
            | panicked c => exact h _ _ _ (by simp) he
            | outgrown => obtain ⟨x, y, z⟩ := he; exact ⟨x, y, h _ _ _ (by simp) z⟩)
  | halt x w' => cases x <;> simp only [Oper.upon] at hh ⊢ <;> first | exact hh | exact h _ _ _ (by simp) hh
theorem wpOp_monoQ {i : Nat} {a : Act} {w : World} {K : Act → World → Prop} (h : ∀ e a w, e ≠ .normal → Q' e a w → Q e a w) (hh : wpOp P ops Q' i K a w) : wpOp P ops Q i K a w := by
  unfold wpOp at *
  split
  · simpa [*] using hh
  · rename_i o ho
    simp only [ho] at hh
    split
    · rename_i hw
      simp only [hw, if_true] at hh
      refine hh.imp (oper_monoQ h) fun ⟨x, a, w, z⟩ => ⟨x, a, w, h _ _ _ (by simp) z⟩
    · rename_i hw; simp only [hw] at hh; exact hh
theorem wpAnyH_monoQ (h : ∀ e a w, e ≠ .normal → Q' e a w → Q e a w) (hn : ∀ a w, Q' .normal a w → Q .normal a w) :
    ∀ (fuel : Nat) (listed : Array Bool) (a : Act) (w : World), wpAnyH P md ops Q' S fuel listed a w → wpAnyH P md ops Q S fuel listed a w
  | 0, _, _, _, hh => ⟨hh.1, hn _ _ hh.2⟩
  | fuel + 1, _, _, _, hh => ⟨fun e => hn _ _ (hh.1 e), fun i hi => wpOp_monoQ h (wpOp_mono (fun _ _ z => ⟨z.1, wpAnyH_monoQ h hn fuel _ _ _ z.2⟩) (hh.2 i hi))⟩
/-- where a region ends: J; else Q -/
def joinQ (Q : Exit → Act → World → Prop) (J : Act → World → Prop) : Exit → Act → World → Prop
  | .normal, a, w => J a w
  | e, a, w => Q e a w
theorem wp_region_join {id : Nat} {a : Act} {w : World} (J : Act → Act → World → Prop) (hm : P.follows .mixedOrders = true)
    (h : wpAnyH P .any ops (joinQ Q (J a)) S ops.size (Array.replicate ops.size false) a { w with drawn := w.drawn + 1 })
    (hJ : ∀ a' w', J a a' w' → Q .normal a' w') : (Code.region id ops true).wp P Q a w :=
  wp_region_held hm (wpAnyH_monoQ (fun e a w he hh => by cases e <;> first | exact absurd rfl he | exact hh) (fun a w hh => hJ a w hh) _ _ _ _ h)
/-- an operation that yields a value and turns the world -/
theorem wpOp_valueW {i : Nat} (t : Nat) {o : Oper} {a : Act} {w w' : World} {K : Act → World → Prop} (hi : ops[i]? = some o) (hw : Region.wanted o (yielded ops a.tmps) = true) (hd : o.dst = some t) (v : Value)
    (hx : (execOp a.eval o).run P w = .ok (.value v) w') (h : K (a.put (some t) v) w') : wpOp P ops Q i K a w := by
  unfold wpOp
  simp only [hi, hw, if_true]
  refine .inl ?_
  unfold Oper.wp
  rw [hx]
  simp only [Oper.upon]
  rw [hd]
  exact h
/-- a call that hands back one of many values -/
theorem wpOp_enterE {i : Nat} (t : Nat) {o : Oper} {a : Act} {w : World} {K : Act → World → Prop} (hi : ops[i]? = some o) (hw : Region.wanted o (yielded ops a.tmps) = true) (hd : o.dst = some t) (f : FuncId) (vs : Array Value)
    (hx : (execOp a.eval o).run P w = .ok (.enter f vs) w) (R : Value → World → Prop) (hc : Calls P f vs w (fun e w' => ∃ v, e = .returned v ∧ R v w')) (h : ∀ v w', R v w' → K (a.put (some t) v) w') : wpOp P ops Q i K a w := by
  unfold wpOp
  simp only [hi, hw, if_true]
  refine .inl ?_
  unfold Oper.wp
  rw [hx]
  simp only [Oper.upon]
  refine Calls.mono hc ?_
  rintro e w' ⟨v, rfl, hr⟩
  rw [hd]
  exact h v w' hr
end
end Go.Proofs.Ytfncpcmaplhojaa
