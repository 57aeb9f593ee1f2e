/- Contract of the helper opened: an archive behind a crash. Contract of the laws' helper Within: a number from 0 to n-1. Histories, opened. A message, opened. -/
import Derived.Test.YtmnnaemcjmiplaaK35
import Derived.Test.YtmnnaemcjmiplaaK1
import Derived.Test.YtmnnaemcjmiplaaK18
import Derived.Test.YtmnnaemcjmiplaaK6
import Derived.OpenShut
import Derived.Lib.SmallJoins
namespace Go.Proofs.Ytmnnaemcjmiplaa
open Go.ChangeShapes Go.WideShapes Go.RowKit
set_option linter.unusedVariables false
set_option linter.unusedSimpArgs false
set_option maxRecDepth 100000
set_option maxHeartbeats 4000000

theorem opened_G (q : Nat) (s : Sh) (m : Option Mv) (B g : Nat) (ka kb : Int) (w : World) (h : ShB w B q s m g) (hdc : dchk s.d0 s.d1 = 0)
    (x0 : ByteArray) (x1 : Int) (y0 : ByteArray) (y1 : Int) (hx0 : crashS s.d0 ka = (x0, x1)) (hy0 : crashS s.d1 kb = (y0, y1)) (fs0 fs1 : List Fm) (rest0 rest1 : List UInt8) (hc : dchk (x0, x1) (y0, y1) = 0)
    (hx : x0.data.toList = flat fs0 ++ rest0) (hr0 : (gf rest0).2.2.2 ≠ 0) (ho0 : ∀ p ∈ fs0, okF p) (hn0 : fs0.length ≤ 300) (hy : y0.data.toList = flat fs1 ++ rest1) (hr1 : (gf rest1).2.2.2 ≠ 0) (ho1 : ∀ p ∈ fs1, okF p) (hn1 : fs1.length ≤ 300)
    (a : Nat) (l : Lg) (hp : pickS (opS fs0) (opS fs1) = some (a, l)) (g2 b2 : Nat) (t2 : List (Nat × Nat)) (hI : ShI (opnS (x0, x1) (y0, y1) a l) none g2 b2 t2) :
    Calls Try.prog 18 #[.pointer (some ⟨q, 0, none⟩), .int .i64 ka, .int .i64 kb] w fun e w' => ∃ q2, e = .returned (.pointer (some ⟨q2, 0, none⟩)) ∧ ShB w' w.heap.size q2 (opnS (x0, x1) (y0, y1) a l) none g2 ∧ Below w.heap.size w w' := by
  have hsd := Lib.hid (sdisk_B q s m B g w h)
  have hcr : ∀ w, Calls Try.prog 62 #[dvl s.d0 s.d1, .agg #[.int .i64 ka, .int .i64 kb]] w fun e w' => e = .returned (.tuple #[.agg #[.string x0, .int .i64 x1, .string y0, .int .i64 y1], .int .i64 0]) ∧ Below w.heap.size w w' := by
    intro w
    have := dcrash_good s.d0 s.d1 ka kb w hdc
    rw [hx0, hy0] at this
    exact this
  have Hcr := Lib.hid hcr
  have Hop := Lib.hid (fun w => sopen_any x0 x1 y0 y1 fs0 fs1 rest0 rest1 w hc hx hr0 ho0 hn0 hy hr1 ho1 hn1 a l hp g2 b2 t2 hI)
  obtain ⟨DV, hDV⟩ : ∃ DV, dvl s.d0 s.d1 = DV := ⟨_, rfl⟩
  rw [hDV] at hsd Hcr
  clear h hdc hx0 hy0 hc hx hr0 ho0 hn0 hy hr1 ho1 hn1 hp hI hcr hDV
  go_enter Try.func18, Try.ntmps18
  go_wp2_with fail
  refine hsd.out.mono ?_
  rintro e w1 ⟨rfl, hb1⟩
  go_wp2_with fail
  refine (Hcr.out w1).mono ?_
  rintro e w2 ⟨rfl, hb2⟩
  have H12 := Lib.hid (hb1.trans (hb2.mono hb1.size))
  have kb2 := Blk.new w2 44 #[.string x0, .int .i64 x1, .string y0, .int .i64 y1]
  have hal := (Below.refl w2.heap.size w2).alloc (Nat.le_refl _) (.cells #[.string x0, .int .i64 x1, .string y0, .int .i64 y1] 44)
  clear hb1 hb2 hsd Hcr
  go_upto_region 2 with (fail)
  obtain ⟨gz, hgz⟩ : ∃ gz, w2.heap.size = gz := ⟨_, rfl⟩
  obtain ⟨u1, hu1⟩ : ∃ u1, w2.alloc (.cells #[.string x0, .int .i64 x1, .string y0, .int .i64 y1] 44) = u1 := ⟨_, rfl⟩
  rw [hu1] at kb2 hal ⊢
  rw [hgz] at kb2 ⊢
  have HAL := Lib.hid hal
  have Hrow := Lib.hid (disk_row kb2 rfl)
  clear hal kb2 hu1 hgz
  go_wp2_with (first | (refine wpList_load_blk rfl _ (.tmp 7) rfl gz rfl _ Hrow.out ?_))
  refine (Hop.out u1).mono ?_
  rintro e w3 ⟨q2, rfl, hS, hb3⟩
  have h12 := H12.out
  have h13 := HAL.out
  have HS := Lib.hid (hS.base (Nat.le_trans h12.size h13.size))
  have HB := Lib.hid (h12.trans ((h13.trans (hb3.mono h13.size)).mono h12.size))
  clear hS hb3 Hop H12 HAL Hrow h12 h13
  go_wp2_with fail
  go_ret
  exact ⟨q2, rfl, HS.out, HB.out⟩
theorem opn_full (x y : Slt) (a : Nat) (ha : a ≤ 1) (l : Lg) : (slotOf (opnS x y a l) (opnS x y a l).at_).2 = ((slotOf (opnS x y a l) (opnS x y a l).at_).1.size : Int) := by
  obtain rfl | rfl : a = 0 ∨ a = 1 := by omega
  · rfl
  · rfl
theorem dchk_sz {x y : Slt} (hx : SzI x) (hy : SzI y) : dchk x y = 0 := by
  unfold dchk
  rw [sbad_ok (x := x) (by have := hx.1; omega) hx.2.1 hx.2.2, sbad_ok (x := y) (by have := hy.1; omega) hy.2.1 hy.2.2]
  simp
/-- an archive behind a crash -/
theorem opened_B (q : Nat) (s : Sh) (m : Option Mv) (B g : Nat) (ka kb : Int) (w : World) (h : ShB w B q s m g) (hg2 : g + 2 ≤ 2147483647) :
    Calls Try.prog 18 #[.pointer (some ⟨q, 0, none⟩), .int .i64 ka, .int .i64 kb] w fun e w' => ∃ q2 x g2, e = .returned (.pointer (some ⟨q2, 0, none⟩)) ∧ ShB w' w.heap.size q2 x none g2 ∧ (∃ k j, OpenR s x k j) ∧ (slotOf x x.at_).2 = ((slotOf x x.at_).1.size : Int) ∧ Below w.heap.size w w' := by
  obtain ⟨b, tN, hG⟩ := h
  obtain ⟨fs0, rest0, fs1, rest1, a, l, e1, e2, e3, e4, e5, e6, e7, e8, e9, e10, ⟨g', b', t', e11⟩, e12⟩ := open_law hG.inv hg2 ka kb
  have z0 := hG.inv.sz 0 (by omega)
  have z1 := hG.inv.sz 1 (by omega)
  have hc := opened_G q s m B g ka kb w ⟨b, tN, hG⟩ (dchk_sz z0 z1) (crashS s.d0 ka).1 (crashS s.d0 ka).2 (crashS s.d1 kb).1 (crashS s.d1 kb).2 rfl rfl fs0 fs1 rest0 rest1 (dchk_sz (crash_sz z0 ka) (crash_sz z1 kb)) e1 e2 e3 e4 e5 e6 e7 e8 a l e9 g' b' t' e11
  refine hc.mono ?_
  rintro e w' ⟨q2, rfl, hS, hb⟩
  exact ⟨q2, _, g', rfl, hS, e12, opn_full _ _ a e10 l, hb⟩
/-- an archive that is safe as a whole, behind a crash -/
theorem opened_same (q : Nat) (s : Sh) (B g : Nat) (ka kb : Int) (w : World) (h : ShB w B q s none g) (ho : s.old = false) (hf : (slotOf s s.at_).2 = ((slotOf s s.at_).1.size : Int)) :
    Calls Try.prog 18 #[.pointer (some ⟨q, 0, none⟩), .int .i64 ka, .int .i64 kb] w fun e w' => ∃ q2 x g2, e = .returned (.pointer (some ⟨q2, 0, none⟩)) ∧ ShB w' w.heap.size q2 x none g2 ∧ x.d0 = s.d0 ∧ x.d1 = s.d1 ∧ x.log.base = s.log.base ∧ x.log.revs = s.log.revs ∧ Below w.heap.size w w' := by
  obtain ⟨b, tN, hG⟩ := h
  obtain ⟨fs0, rest0, fs1, rest1, a, l, e1, e2, e3, e4, e5, e6, e7, e8, e9, e10, ⟨g', b', t', e11⟩, e12, e13, e14, e15⟩ := open_same hG.inv ho hf ka kb
  have z0 := hG.inv.sz 0 (by omega)
  have z1 := hG.inv.sz 1 (by omega)
  have hc := opened_G q s none B g ka kb w ⟨b, tN, hG⟩ (dchk_sz z0 z1) (crashS s.d0 ka).1 (crashS s.d0 ka).2 (crashS s.d1 kb).1 (crashS s.d1 kb).2 rfl rfl fs0 fs1 rest0 rest1 (dchk_sz (crash_sz z0 ka) (crash_sz z1 kb)) e1 e2 e3 e4 e5 e6 e7 e8 a l e9 g' b' t' e11
  refine hc.mono ?_
  rintro e w' ⟨q2, rfl, hS, hb⟩
  exact ⟨q2, _, g', rfl, hS, e12, e13, e14, e15, hb⟩
end Go.Proofs.Ytmnnaemcjmiplaa
namespace Go.Proofs.Ytmnnaemcjmiplaa
open Go.ChangeShapes Go.WideShapes Go.RowKit
set_option linter.unusedVariables false
set_option linter.unusedSimpArgs false
set_option maxRecDepth 100000
set_option maxHeartbeats 4000000

def wi (k : Int) (n : Nat) : Nat := (IntKind.u64.wrap k).toNat % n
theorem wi_lt (k : Int) (n : Nat) (h : 0 < n) : wi k n < n := Nat.mod_lt _ h

theorem within_any (k : Int) (n : Nat) (w : World) (h1 : 0 < n) (h2 : (n : Int) ≤ 1000000000000000000) :
    Calls Try.prog 22 #[.int .i64 k, .int .i64 n] w fun e w' => e = .returned (.int .i64 (wi k n)) ∧ w = w' := by
  go_enter Try.func22, Try.ntmps22
  go_wp2_with fail
  go_ret
  refine ⟨?_, rfl⟩
  have h0 : 0 ≤ IntKind.u64.wrap k := by
    simp only [IntKind.wrap, IntKind.signed, IntKind.bits]
    exact Int.emod_nonneg _ (by decide)
  obtain ⟨x, hx⟩ := Int.eq_ofNat_of_zero_le h0
  have hlt : x % n < n := Nat.mod_lt _ h1
  have e : wrap64 ((IntKind.u64.wrap k).tmod n) = (wi k n : Int) := by
    unfold wi
    rw [hx, Int.toNat_natCast, show (x : Int).tmod n = ((x % n : Nat) : Int) from rfl]
    exact IntWalk.wrap64_in _ ⟨by omega, by omega⟩
  show Ending.returned (.int .i64 (wrap64 ((IntKind.u64.wrap k).tmod n))) = _
  rw [e]
end Go.Proofs.Ytmnnaemcjmiplaa
namespace Go.Proofs.Ytmnnaemcjmiplaa
open Go.ChangeShapes Go.WideShapes Go.RowKit Go.Joins Go.Deep
set_option linter.unusedVariables false
set_option linter.unusedSimpArgs false
set_option maxRecDepth 100000

/-- a history as it came in -/
def IsRevs (w : World) (v : Value) (l : List Rv) : Prop := ∃ A n c, v = .slice A n c ∧ RdR w w.heap.size A n c l
section
variable {H : Type} {enc : TypeId × Value → H} {w : World} {base : Nat} {spare : Nat → Bool} {held : Bool}
theorem read_revs {fuel : Nat} {v : Value} {x : DataW H × List MemPlace} (h : DataW.trod enc Try.prog w base spare held fuel 22 [v] = some x) (hb : ∀ n ∈ DataW.weights Try.prog 22 x.1, n ≤ 140737488351232) : ∃ l, IsRevs w v l := by
  rcases open_slice_fields Try.underlying22 Try.underlying27 (by kernel_rfl) (by kernel_rfl) h with ⟨hc, _⟩ | ⟨a, len, cap, m, D, Pl, hc, _, h1, h2, h3, hx, h4⟩
  · simp only [List.cons.injEq, and_true] at hc
    exact ⟨[], _, _, _, hc, RdR.nil _ _⟩
  · simp only [List.cons.injEq, and_true] at hc
    have hl : len ≤ m := by rw [h3]; split <;> omega
    subst hx
    have h5 : ∀ i, i < len → ∃ p : Rv × Sl, w.cell? (a.add (i * 3)) = some (.int .i64 p.1.1) ∧ w.cell? (a.add (i * 3 + 1)) = some (.int .i64 p.1.2.1) ∧ w.cell? (a.add (i * 3 + 2)) = some (.slice p.2.1 p.2.2.1 p.2.2.2) ∧ RdP w w.heap.size p.2.1 p.2.2.1 p.2.2.2 p.1.2.2 := by
      intro i hi
      obtain ⟨ys, n, hD, _, hyl, hf⟩ := h4 i (by omega)
      obtain ⟨v0, y0, c0, e0, t0⟩ := hf 0 _ rfl
      obtain ⟨v1, y1, c1, e1, t1⟩ := hf 1 _ rfl
      obtain ⟨v2, y2, c2, e2, t2⟩ := hf 2 _ rfl
      obtain ⟨k0, z0, rfl, _⟩ := DataW.trod_int Try.underlying3 t0
      obtain ⟨k1, z1, rfl, _⟩ := DataW.trod_int Try.underlying3 t1
      simp only [List.cons.injEq, and_true] at z0 z1
      subst z0 z1
      match ys, hyl with
      | [a0, a1, a2], _ =>
        simp only [List.getElem?_cons_zero, List.getElem?_cons_succ, Option.some.injEq] at e0 e1 e2
        subst e0 e1 e2
        obtain ⟨d, A2, n2, c2', rfl, hr2⟩ := read_parts t2 (fun q hq => hb q (by
          have hmem : q ∈ DataW.weights Try.prog 27 (D i) := by
            rw [hD]
            simp only [DataW.weights, Try.underlying27, List.map_cons, List.map_nil, DataW.weightsEach, List.nil_append, List.append_nil, List.mem_append]
            exact hq
          simp only [DataW.weights, Try.underlying22, List.mem_cons, List.mem_append]
          exact .inr (.inl (weights_all_mem hmem (List.mem_map.2 ⟨i, List.mem_range.2 hi, rfl⟩)))))
        exact ⟨((k0, k1, d), (A2, n2, c2')), c0, c1, c2, hr2⟩
    obtain ⟨l, hll, hp⟩ := pick_lt (((0, 0, []), (none, 0, 0)) : Rv × Sl) h5
    refine ⟨l.map (·.1), _, len, cap, hc, by rw [List.length_map]; exact hll.symm, l.map (·.2), by simp, rd_of (by omega) h1 h2 (by rw [rc_len _ _ (by simp), List.length_map, hll]) fun j u hj => ?_, fun k hk => ?_⟩
    · have hrl := rc_len (l.map (·.1)) (l.map (·.2)) (by simp)
      have hjl : j < l.length * 3 := by
        rcases Nat.lt_or_ge j (rc (l.map (·.1)) (l.map (·.2))).length with hlt | hge
        · rw [hrl, List.length_map] at hlt; exact hlt
        · rw [List.getElem?_eq_none hge] at hj; cases hj
      obtain ⟨q0, q1, q2⟩ := rc_at (l.map (·.1)) (l.map (·.2)) (by simp) (j / 3) (by rw [List.length_map]; omega)
      obtain ⟨b0, b1, b2, _⟩ := hp (j / 3) (by omega)
      simp only [List.getElem_map] at q0 q1 q2
      have e : j = j / 3 * 3 + j % 3 := by omega
      rcases (show j % 3 = 0 ∨ j % 3 = 1 ∨ j % 3 = 2 by omega) with h | h | h
      · rw [e, h, Nat.add_zero] at hj ⊢; rw [q0] at hj; rw [b0]; exact hj
      · rw [e, h] at hj ⊢; rw [q1] at hj; rw [b1]; exact hj
      · rw [e, h] at hj ⊢; rw [q2] at hj; rw [b2]; exact hj
    · rw [List.length_map] at hk
      have := (hp k hk).2.2.2
      simpa using this
theorem open_revs_said {r : Reach} {b0 : Nat} {v : Value} {d : DataW H} {p : List MemPlace} (hv : Value.okWide Try.prog w r b0 22 v) (h : DataW.Trod enc Try.prog w base spare held 22 v d p) (_ : ∀ x ∈ p, x.block < w.heap.size)
    (hb : ∀ x ∈ DataW.weights Try.prog 22 d, x ≤ 140737488351232) : ∃ x, IsRevs w v x := by
  obtain ⟨A, n, c, rfl⟩ := okWide_slice Try.underlying22 hv
  obtain ⟨fuel, hf⟩ := h
  exact read_revs hf hb
end
end Go.Proofs.Ytmnnaemcjmiplaa
namespace Go.Proofs.Ytmnnaemcjmiplaa
open Go.ChangeShapes Go.WideShapes Go.RowKit Go.Joins Go.Deep
set_option linter.unusedVariables false
set_option linter.unusedSimpArgs false
set_option maxRecDepth 100000

/-- a message as it came in: base, hand, number, delta -/
def IsMsg (w : World) (v : Value) (x : Int × Int × Int × List Pt) : Prop := ∃ A n c, v = .agg #[.int .i64 x.1, .int .i64 x.2.1, .int .i64 x.2.2.1, .slice A n c] ∧ RdP w w.heap.size A n c x.2.2.2
section
variable {H : Type} {enc : TypeId × Value → H} {w : World} {base : Nat} {spare : Nat → Bool} {held : Bool}
theorem open_msg_said {r : Reach} {b0 : Nat} {v : Value} {d : DataW H} {p : List MemPlace} (hv : Value.okWide Try.prog w r b0 56 v) (h : DataW.Trod enc Try.prog w base spare held 56 v d p) (_ : ∀ x ∈ p, x.block < w.heap.size)
    (hb : ∀ x ∈ DataW.weights Try.prog 56 d, x ≤ 140737488351232) : ∃ x, IsMsg w v x := by
  obtain ⟨v0, v1, v2, v3, y0, y1, y2, y3, n, rfl, rfl, rfl, h0, h1, h2, h3⟩ := open_agg4 Try.underlying56 (by kernel_rfl) (by kernel_rfl) hv h
  obtain ⟨a, e0, rfl, _⟩ := DataW.trod_int Try.underlying3 h0
  obtain ⟨b, e1, rfl, _⟩ := DataW.trod_int Try.underlying3 h1
  obtain ⟨c, e2, rfl, _⟩ := DataW.trod_int Try.underlying3 h2
  obtain ⟨l, A, m, cc, rfl, hr⟩ := read_parts h3 (fun q hq => hb q (by
    simp only [DataW.weights, Try.underlying56, List.map_cons, List.map_nil, DataW.weightsEach, List.nil_append, List.append_nil, List.mem_append]
    exact hq))
  simp only [List.cons.injEq, and_true] at e0 e1 e2
  subst e0 e1 e2
  exact ⟨(a, b, c, l), A, m, cc, rfl, hr⟩
end
end Go.Proofs.Ytmnnaemcjmiplaa
