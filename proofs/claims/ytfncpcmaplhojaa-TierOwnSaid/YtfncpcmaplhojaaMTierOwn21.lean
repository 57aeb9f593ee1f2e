/- Histories, opened. opens a list of parts that may have room behind it (nil told apart). Histories, opened, with the bounds of their slices. Contract of the laws' helper Within: a number from 0 to n-1. -/
import Derived.Test.YtfncpcmaplhojaaMTierOwn20
import Derived.Test.YtfncpcmaplhojaaMTierOwn13
import Derived.Test.YtfncpcmaplhojaaMTierOwn7
import Derived.Test.YtfncpcmaplhojaaMTierOwn1
namespace Go.Proofs.Ytfncpcmaplhojaa
open Go.ChangeShapes Go.WideShapes Go.RowKit Go.Joins Go.Deep
set_option linter.unusedVariables false
set_option linter.unusedSimpArgs false
set_option maxRecDepth 100000

/-- a history as it came in -/
def IsRevs (w : World) (v : Value) (l : List Rv) : Prop := ∃ A n c, v = .slice A n c ∧ RdR w w.heap.size A n c l
section
variable {H : Type} {enc : TypeId × Value → H} {w : World} {base : Nat} {spare : Nat → Bool} {held : Bool}
theorem read_revs {fuel : Nat} {v : Value} {x : DataW H × List MemPlace} (h : DataW.trod enc Try.prog w base spare held fuel 22 [v] = some x) (hb : ∀ n ∈ DataW.weights Try.prog 22 x.1, n ≤ 140737488351232) : ∃ l, IsRevs w v l := by
  rcases open_slice_fields Try.underlying22 Try.underlying29 (by kernel_rfl) (by kernel_rfl) h with ⟨hc, _⟩ | ⟨a, len, cap, m, D, Pl, hc, _, h1, h2, h3, hx, h4⟩
  · simp only [List.cons.injEq, and_true] at hc
    exact ⟨[], _, _, _, hc, RdR.nil _ _⟩
  · simp only [List.cons.injEq, and_true] at hc
    have hl : len ≤ m := by rw [h3]; split <;> omega
    subst hx
    have h5 : ∀ i, i < len → ∃ p : Rv × Sl, w.cell? (a.add (i * 3)) = some (.int .i64 p.1.1) ∧ w.cell? (a.add (i * 3 + 1)) = some (.int .i64 p.1.2.1) ∧ w.cell? (a.add (i * 3 + 2)) = some (.slice p.2.1 p.2.2.1 p.2.2.2) ∧ RdP w w.heap.size p.2.1 p.2.2.1 p.2.2.2 p.1.2.2 := by
      intro i hi
      obtain ⟨ys, n, hD, _, hyl, hf⟩ := h4 i (by omega)
      obtain ⟨v0, y0, c0, e0, t0⟩ := hf 0 _ rfl
      obtain ⟨v1, y1, c1, e1, t1⟩ := hf 1 _ rfl
      obtain ⟨v2, y2, c2, e2, t2⟩ := hf 2 _ rfl
      obtain ⟨k0, z0, rfl, _⟩ := DataW.trod_int Try.underlying3 t0
      obtain ⟨k1, z1, rfl, _⟩ := DataW.trod_int Try.underlying3 t1
      simp only [List.cons.injEq, and_true] at z0 z1
      subst z0 z1
      match ys, hyl with
      | [a0, a1, a2], _ =>
        simp only [List.getElem?_cons_zero, List.getElem?_cons_succ, Option.some.injEq] at e0 e1 e2
        subst e0 e1 e2
        obtain ⟨d, A2, n2, c2', rfl, hr2⟩ := read_parts t2 (fun q hq => hb q (by
          have hmem : q ∈ DataW.weights Try.prog 29 (D i) := by
            rw [hD]
            simp only [DataW.weights, Try.underlying29, List.map_cons, List.map_nil, DataW.weightsEach, List.nil_append, List.append_nil, List.mem_append]
            exact hq
          simp only [DataW.weights, Try.underlying22, List.mem_cons, List.mem_append]
          exact .inr (.inl (weights_all_mem hmem (List.mem_map.2 ⟨i, List.mem_range.2 hi, rfl⟩)))))
        exact ⟨((k0, k1, d), (A2, n2, c2')), c0, c1, c2, hr2⟩
    obtain ⟨l, hll, hp⟩ := pick_lt (((0, 0, []), (none, 0, 0)) : Rv × Sl) h5
    refine ⟨l.map (·.1), _, len, cap, hc, by rw [List.length_map]; exact hll.symm, l.map (·.2), by simp, rd_of (by omega) h1 h2 (by rw [rc_len _ _ (by simp), List.length_map, hll]) fun j u hj => ?_, fun k hk => ?_⟩
    · have hrl := rc_len (l.map (·.1)) (l.map (·.2)) (by simp)
      have hjl : j < l.length * 3 := by
        rcases Nat.lt_or_ge j (rc (l.map (·.1)) (l.map (·.2))).length with hlt | hge
        · rw [hrl, List.length_map] at hlt; exact hlt
        · rw [List.getElem?_eq_none hge] at hj; cases hj
      obtain ⟨q0, q1, q2⟩ := rc_at (l.map (·.1)) (l.map (·.2)) (by simp) (j / 3) (by rw [List.length_map]; omega)
      obtain ⟨b0, b1, b2, _⟩ := hp (j / 3) (by omega)
      simp only [List.getElem_map] at q0 q1 q2
      have e : j = j / 3 * 3 + j % 3 := by omega
      rcases (show j % 3 = 0 ∨ j % 3 = 1 ∨ j % 3 = 2 by omega) with h | h | h
      · rw [e, h, Nat.add_zero] at hj ⊢; rw [q0] at hj; rw [b0]; exact hj
      · rw [e, h] at hj ⊢; rw [q1] at hj; rw [b1]; exact hj
      · rw [e, h] at hj ⊢; rw [q2] at hj; rw [b2]; exact hj
    · rw [List.length_map] at hk
      have := (hp k hk).2.2.2
      simpa using this
theorem open_revs_said {r : Reach} {b0 : Nat} {v : Value} {d : DataW H} {p : List MemPlace} (hv : Value.okWide Try.prog w r b0 22 v) (h : DataW.Trod enc Try.prog w base spare held 22 v d p) (_ : ∀ x ∈ p, x.block < w.heap.size)
    (hb : ∀ x ∈ DataW.weights Try.prog 22 d, x ≤ 140737488351232) : ∃ x, IsRevs w v x := by
  obtain ⟨A, n, c, rfl⟩ := okWide_slice Try.underlying22 hv
  obtain ⟨fuel, hf⟩ := h
  exact read_revs hf hb
end
end Go.Proofs.Ytfncpcmaplhojaa
namespace Go.Proofs.Ytfncpcmaplhojaa
open Go.ChangeShapes Go.WideShapes Go.RowKit Go.Joins Go.Deep
set_option linter.unusedVariables false
set_option linter.unusedSimpArgs false
set_option maxRecDepth 100000
set_option maxHeartbeats 4000000
section
variable {H : Type} {enc : TypeId × Value → H} {w : World} {base : Nat} {spare : Nat → Bool} {held : Bool}
theorem open_partsN_said {r : Reach} {b0 : Nat} {v : Value} {d : DataW H} {p : List MemPlace} (hv : Value.okWide Try.prog w r b0 27 v) (h : DataW.Trod enc Try.prog w base spare held 27 v d p) (h2 : ∀ x ∈ p, x.block < w.heap.size)
    (hb : ∀ x ∈ DataW.weights Try.prog 27 d, x ≤ 140737488351232) : ∃ x, IsPartsN w v x := by
  obtain ⟨x, A, n, c, rfl, hr⟩ := open_parts_said hv h h2 hb
  refine ⟨x, A, n, c, rfl, hr, ?_⟩
  obtain ⟨fuel, hf⟩ := h
  rcases open_slice_fields Try.underlying27 Try.underlying45 (by kernel_rfl) (by kernel_rfl) hf with ⟨hc, _⟩ | ⟨a, len, cap, m, D, Pl, hc, _, h1, _, h3, hx, _⟩
  · injection hc with hc _
    injection hc with e1 e2 e3
    exact ⟨by omega, fun _ => e3⟩
  · injection hc with hc _
    injection hc with e1 e2 e3
    have hl : len ≤ m := by rw [h3]; split <;> omega
    have hd : d = .slice ((List.range len).map D) ((List.range (m - len)).map fun j => D (len + j)) := congrArg Prod.fst hx
    have hbo : Try.prog.bytesOf 45 = 32 := by kernel_rfl
    have := hb ((((List.range len).map D).length + ((List.range (m - len)).map fun j => D (len + j)).length) * 32) (by
      rw [hd]
      simp only [DataW.weights, Try.underlying27, hbo]
      exact List.mem_cons_self)
    simp only [List.length_map, List.length_range] at this
    exact ⟨by omega, fun e => by rw [e1] at e; cases e⟩
end
end Go.Proofs.Ytfncpcmaplhojaa
namespace Go.Proofs.Ytfncpcmaplhojaa
open Go.ChangeShapes Go.WideShapes Go.RowKit Go.Joins Go.Deep
set_option linter.unusedVariables false
set_option linter.unusedSimpArgs false
set_option maxRecDepth 100000

/-- a history as it is read: nil deltas have no room -/
def RdRN (w : World) (B : Nat) (A : Option Addr) (n c : Nat) (l : List Rv) : Prop :=
  n = l.length ∧ ∃ ss : List Sl, ∃ hs : ss.length = l.length, Rd w B 3 A n c (rc l ss) ∧ ∀ k (h : k < l.length), (RdP w B (ss[k]'(by omega)).1 (ss[k]'(by omega)).2.1 (ss[k]'(by omega)).2.2 l[k].2.2 ∧ (ss[k]'(by omega)).2.1 ≤ 4398046511104 ∧ ((ss[k]'(by omega)).1 = none → (ss[k]'(by omega)).2.2 = 0))
theorem RdRN.rd {w : World} {B n c : Nat} {A : Option Addr} {l : List Rv} (h : RdRN w B A n c l) : RdR w B A n c l := by
  obtain ⟨h0, ss, hs, hr, hp⟩ := h
  exact ⟨h0, ss, hs, hr, fun k hk => (hp k hk).1⟩
theorem RdRN.below {w w' : World} {B n c : Nat} {A : Option Addr} {l : List Rv} (h : RdRN w B A n c l) (hb : Below B w w') : RdRN w' B A n c l := by
  obtain ⟨h0, ss, hs, hr, hp⟩ := h
  exact ⟨h0, ss, hs, hr.below hb, fun k hk => ⟨(hp k hk).1.below hb, (hp k hk).2⟩⟩
theorem RdRN.at_ {w : World} {B n c : Nat} {A : Option Addr} {l : List Rv} (h : RdRN w B A n c l) (k : Nat) (hk : k < n) :
    ∃ b o A1 n1 c1, A = some ⟨b, o, none⟩ ∧ b < B ∧ w.cell? ⟨b, o + k * 3, none⟩ = some (.int .i64 (l[k]'(by have := h.1; omega)).1) ∧ w.cell? ⟨b, o + k * 3 + 1, none⟩ = some (.int .i64 (l[k]'(by have := h.1; omega)).2.1) ∧
      w.cell? ⟨b, o + k * 3 + 2, none⟩ = some (.slice A1 n1 c1) ∧ RdP w B A1 n1 c1 (l[k]'(by have := h.1; omega)).2.2 ∧ n1 ≤ 4398046511104 ∧ (A1 = none → c1 = 0) := by
  obtain ⟨h0, ss, hs, hr, hp⟩ := h
  obtain ⟨b, o, e, hb, hc⟩ := hr.2.2.2 (by omega)
  obtain ⟨q0, q1, q2⟩ := rc_at l ss hs k (by omega)
  have := hp k (by omega)
  refine ⟨b, o, _, _, _, e, hb, hc _ _ q0, ?_, ?_, this⟩
  · have := hc _ _ q1
    rwa [← Nat.add_assoc] at this
  · have := hc _ _ q2
    rwa [← Nat.add_assoc] at this
/-- a history as it came in -/
def IsRevsN (w : World) (v : Value) (l : List Rv) : Prop := ∃ A n c, v = .slice A n c ∧ RdRN w w.heap.size A n c l ∧ n ≤ 3518437208880
section
variable {H : Type} {enc : TypeId × Value → H} {w : World} {base : Nat} {spare : Nat → Bool} {held : Bool}
theorem read_partsN {fuel : Nat} {v : Value} {x : DataW H × List MemPlace} (h : DataW.trod enc Try.prog w base spare held fuel 27 [v] = some x) (hb : ∀ n ∈ DataW.weights Try.prog 27 x.1, n ≤ 140737488351232) : ∃ l, IsPartsN w v l := by
  obtain ⟨l, A, n, c, rfl, hr⟩ := read_parts h hb
  refine ⟨l, A, n, c, rfl, hr, ?_⟩
  rcases open_slice_fields Try.underlying27 Try.underlying45 (by kernel_rfl) (by kernel_rfl) h with ⟨hc, _⟩ | ⟨a, len, cap, m, D, Pl, hc, _, h1, _, h3, hx, _⟩
  · injection hc with hc _
    injection hc with e1 e2 e3
    exact ⟨by omega, fun _ => e3⟩
  · injection hc with hc _
    injection hc with e1 e2 e3
    have hl : len ≤ m := by rw [h3]; split <;> omega
    have hd : x.1 = .slice ((List.range len).map D) ((List.range (m - len)).map fun j => D (len + j)) := congrArg Prod.fst hx
    have hbo : Try.prog.bytesOf 45 = 32 := by kernel_rfl
    have := hb ((((List.range len).map D).length + ((List.range (m - len)).map fun j => D (len + j)).length) * 32) (by
      rw [hd]
      simp only [DataW.weights, Try.underlying27, hbo]
      exact List.mem_cons_self)
    simp only [List.length_map, List.length_range] at this
    exact ⟨by omega, fun e => by rw [e1] at e; cases e⟩
theorem read_revsN {fuel : Nat} {v : Value} {x : DataW H × List MemPlace} (h : DataW.trod enc Try.prog w base spare held fuel 22 [v] = some x) (hb : ∀ n ∈ DataW.weights Try.prog 22 x.1, n ≤ 140737488351232) : ∃ l, IsRevsN w v l := by
  rcases open_slice_fields Try.underlying22 Try.underlying29 (by kernel_rfl) (by kernel_rfl) h with ⟨hc, _⟩ | ⟨a, len, cap, m, D, Pl, hc, _, h1, h2, h3, hx, h4⟩
  · simp only [List.cons.injEq, and_true] at hc
    exact ⟨[], _, _, _, hc, ⟨rfl, [], rfl, Rd.nil _ _ _, fun k h => absurd h (by simp)⟩, by decide⟩
  · simp only [List.cons.injEq, and_true] at hc
    have hl : len ≤ m := by rw [h3]; split <;> omega
    subst hx
    have hbo : Try.prog.bytesOf 29 = 40 := by kernel_rfl
    have hlen := hb ((((List.range len).map D).length + ((List.range (m - len)).map fun j => D (len + j)).length) * 40) (by
      simp only [DataW.weights, Try.underlying22, hbo]
      exact List.mem_cons_self)
    simp only [List.length_map, List.length_range] at hlen
    have h5 : ∀ i, i < len → ∃ p : Rv × Sl, w.cell? (a.add (i * 3)) = some (.int .i64 p.1.1) ∧ w.cell? (a.add (i * 3 + 1)) = some (.int .i64 p.1.2.1) ∧ w.cell? (a.add (i * 3 + 2)) = some (.slice p.2.1 p.2.2.1 p.2.2.2) ∧ (RdP w w.heap.size p.2.1 p.2.2.1 p.2.2.2 p.1.2.2 ∧ p.2.2.1 ≤ 4398046511104 ∧ (p.2.1 = none → p.2.2.2 = 0)) := by
      intro i hi
      obtain ⟨ys, n, hD, _, hyl, hf⟩ := h4 i (by omega)
      obtain ⟨v0, y0, c0, e0, t0⟩ := hf 0 _ rfl
      obtain ⟨v1, y1, c1, e1, t1⟩ := hf 1 _ rfl
      obtain ⟨v2, y2, c2, e2, t2⟩ := hf 2 _ rfl
      obtain ⟨k0, z0, rfl, _⟩ := DataW.trod_int Try.underlying3 t0
      obtain ⟨k1, z1, rfl, _⟩ := DataW.trod_int Try.underlying3 t1
      simp only [List.cons.injEq, and_true] at z0 z1
      subst z0 z1
      match ys, hyl with
      | [a0, a1, a2], _ =>
        simp only [List.getElem?_cons_zero, List.getElem?_cons_succ, Option.some.injEq] at e0 e1 e2
        subst e0 e1 e2
        obtain ⟨d, A2, n2, c2', rfl, hr2⟩ := read_partsN t2 (fun q hq => hb q (by
          have hmem : q ∈ DataW.weights Try.prog 29 (D i) := by
            rw [hD]
            simp only [DataW.weights, Try.underlying29, List.map_cons, List.map_nil, DataW.weightsEach, List.nil_append, List.append_nil, List.mem_append]
            exact hq
          simp only [DataW.weights, Try.underlying22, List.mem_cons, List.mem_append]
          exact .inr (.inl (weights_all_mem hmem (List.mem_map.2 ⟨i, List.mem_range.2 hi, rfl⟩)))))
        exact ⟨((k0, k1, d), (A2, n2, c2')), c0, c1, c2, hr2⟩
    obtain ⟨l, hll, hp⟩ := pick_lt (((0, 0, []), (none, 0, 0)) : Rv × Sl) h5
    refine ⟨l.map (·.1), _, len, cap, hc, ⟨by rw [List.length_map]; exact hll.symm, l.map (·.2), by simp, rd_of (by omega) h1 h2 (by rw [rc_len _ _ (by simp), List.length_map, hll]) fun j u hj => ?_, fun k hk => ?_⟩, by omega⟩
    · have hrl := rc_len (l.map (·.1)) (l.map (·.2)) (by simp)
      have hjl : j < l.length * 3 := by
        rcases Nat.lt_or_ge j (rc (l.map (·.1)) (l.map (·.2))).length with hlt | hge
        · rw [hrl, List.length_map] at hlt; exact hlt
        · rw [List.getElem?_eq_none hge] at hj; cases hj
      obtain ⟨q0, q1, q2⟩ := rc_at (l.map (·.1)) (l.map (·.2)) (by simp) (j / 3) (by rw [List.length_map]; omega)
      obtain ⟨b0, b1, b2, _⟩ := hp (j / 3) (by omega)
      simp only [List.getElem_map] at q0 q1 q2
      have e : j = j / 3 * 3 + j % 3 := by omega
      rcases (show j % 3 = 0 ∨ j % 3 = 1 ∨ j % 3 = 2 by omega) with h | h | h
      · rw [e, h, Nat.add_zero] at hj ⊢; rw [q0] at hj; rw [b0]; exact hj
      · rw [e, h] at hj ⊢; rw [q1] at hj; rw [b1]; exact hj
      · rw [e, h] at hj ⊢; rw [q2] at hj; rw [b2]; exact hj
    · rw [List.length_map] at hk
      have := (hp k hk).2.2.2
      simpa using this
theorem open_revsN_said {r : Reach} {b0 : Nat} {v : Value} {d : DataW H} {p : List MemPlace} (hv : Value.okWide Try.prog w r b0 22 v) (h : DataW.Trod enc Try.prog w base spare held 22 v d p) (_ : ∀ x ∈ p, x.block < w.heap.size)
    (hb : ∀ x ∈ DataW.weights Try.prog 22 d, x ≤ 140737488351232) : ∃ x, IsRevsN w v x := by
  obtain ⟨A, n, c, rfl⟩ := okWide_slice Try.underlying22 hv
  obtain ⟨fuel, hf⟩ := h
  exact read_revsN hf hb
end
end Go.Proofs.Ytfncpcmaplhojaa
namespace Go.Proofs.Ytfncpcmaplhojaa
open Go.ChangeShapes Go.WideShapes Go.RowKit
set_option linter.unusedVariables false
set_option linter.unusedSimpArgs false
set_option maxRecDepth 100000
set_option maxHeartbeats 4000000

def wi (k : Int) (n : Nat) : Nat := (IntKind.u64.wrap k).toNat % n
theorem wi_lt (k : Int) (n : Nat) (h : 0 < n) : wi k n < n := Nat.mod_lt _ h

theorem within_any (k : Int) (n : Nat) (w : World) (h1 : 0 < n) (h2 : (n : Int) ≤ 1000000000000000000) :
    Calls Try.prog 20 #[.int .i64 k, .int .i64 n] w fun e w' => e = .returned (.int .i64 (wi k n)) ∧ w = w' := by
  go_enter Try.func20, Try.ntmps20
  go_wp2_with fail
  go_ret
  refine ⟨?_, rfl⟩
  have h0 : 0 ≤ IntKind.u64.wrap k := by
    simp only [IntKind.wrap, IntKind.signed, IntKind.bits]
    exact Int.emod_nonneg _ (by decide)
  obtain ⟨x, hx⟩ := Int.eq_ofNat_of_zero_le h0
  have hlt : x % n < n := Nat.mod_lt _ h1
  have e : wrap64 ((IntKind.u64.wrap k).tmod n) = (wi k n : Int) := by
    unfold wi
    rw [hx, Int.toNat_natCast, show (x : Int).tmod n = ((x % n : Nat) : Int) from rfl]
    exact IntWalk.wrap64_in _ ⟨by omega, by omega⟩
  show Ending.returned (.int .i64 (wrap64 ((IntKind.u64.wrap k).tmod n))) = _
  rw [e]
end Go.Proofs.Ytfncpcmaplhojaa
