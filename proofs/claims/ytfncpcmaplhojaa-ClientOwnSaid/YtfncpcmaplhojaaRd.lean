/- A slice value that reads as a list of cells. -/
import Derived.Test.YtfncpcmaplhojaaBase
namespace Go.Proofs.Ytfncpcmaplhojaa
open Go.ChangeShapes Go.WideShapes Go.RowKit
set_option linter.unusedVariables false
set_option linter.unusedSimpArgs false
set_option maxRecDepth 100000

/-- the slice .slice A n c reads as the cells cs ('size' an element), all below block B -/
def Rd (w : World) (B size : Nat) (A : Option Addr) (n c : Nat) (cs : List Value) : Prop :=
  n ≤ c ∧ c ≤ maxLen ∧ cs.length = n * size ∧ (0 < n → ∃ b o, A = some ⟨b, o, none⟩ ∧ b < B ∧ ∀ j u, cs[j]? = some u → w.cell? ⟨b, o + j, none⟩ = some u)
section
variable {w w' : World} {B B' size n c : Nat} {A : Option Addr} {cs : List Value}
theorem Rd.nil (w : World) (B size : Nat) : Rd w B size none 0 0 [] := ⟨Nat.le_refl _, Nat.zero_le _, by simp, fun h => absurd h (by omega)⟩
theorem Rd.keep (h : Rd w B size A n c cs) (hk : ∀ p : Addr, p.block < B → w'.cell? p = w.cell? p) : Rd w' B size A n c cs :=
  ⟨h.1, h.2.1, h.2.2.1, fun hn => by
    obtain ⟨b, o, e, hb, hc⟩ := h.2.2.2 hn
    exact ⟨b, o, e, hb, fun j u hu => (hk _ hb).trans (hc j u hu)⟩⟩
theorem Rd.more (h : Rd w B size A n c cs) (hB : B ≤ B') : Rd w B' size A n c cs :=
  ⟨h.1, h.2.1, h.2.2.1, fun hn => by
    obtain ⟨b, o, e, hb, hc⟩ := h.2.2.2 hn
    exact ⟨b, o, e, by omega, hc⟩⟩
theorem Rd.below (h : Rd w B size A n c cs) (hb : Below B w w') : Rd w' B size A n c cs := h.keep fun _ hp => hb.cell hp
theorem Rd.drewN (h : Rd w B size A n c cs) (k : Nat) : Rd (w.drewN k) B size A n c cs := h
theorem Rd.alloc (h : Rd w B size A n c cs) (hB : B ≤ w.heap.size) (o : Obj) : Rd (w.alloc o) B size A n c cs := h.keep fun p hp => World.cell?_alloc_lt w o p (by omega)
theorem Rd.own {base : Nat} {e : TypeId} {v : Value} (h : w.ownsRow base e size v n cs) : ∃ A c, v = .slice A n c ∧ Rd w w.heap.size size A n c cs := by
  rcases h.2 with ⟨rfl, rfl⟩ | ⟨g, cap, cur, rfl, hg, hh, hn, hc, hcs, htk⟩
  · have : cs = [] := List.eq_nil_of_length_eq_zero (by simpa using h.1)
    subst this
    exact ⟨_, _, rfl, Rd.nil _ _ _⟩
  · refine ⟨_, _, rfl, hn, hc, h.1, fun _ => ⟨g, 0, rfl, own_lt h g rfl, fun j u hu => ?_⟩⟩
    rw [Nat.zero_add, cell_of_row _ _ j _ _ _ hh]
    rw [← htk, List.getElem?_take] at hu
    split at hu
    · simpa using hu
    · cases hu
/-- a slice just boxed by buildSlice -/
theorem Rd.built (w : World) (e : TypeId) (cs : Array Value) (hn : cs.size = n * size) (hm : n ≤ maxLen) : Rd (w.alloc (.cells cs e)) (w.heap.size + 1) size (some ⟨w.heap.size, 0, none⟩) n n cs.toList :=
  ⟨Nat.le_refl _, hm, by simpa using hn, fun _ => ⟨_, 0, rfl, by omega, fun j u hu => by
    rw [Nat.zero_add, cell_of_row _ _ j _ _ _ (heap_alloc_new w _)]; simpa using hu⟩⟩
end
theorem spot_of_cell {w : World} {a : Addr} {v : Value} (h : w.cell? a = some v) : a = ⟨a.block, a.off, none⟩ := by
  obtain ⟨b, o, s⟩ := a
  cases s with
  | none => rfl
  | some s =>
    simp only [World.cell?] at h
    split at h
    · simp at h
    · cases h
theorem block_of_cell {w : World} {a : Addr} {v : Value} (h : w.cell? a = some v) : a.block < w.heap.size := by
  rcases Nat.lt_or_ge a.block w.heap.size with hlt | hge
  · exact hlt
  · simp only [World.cell?, Array.getElem?_eq_none hge] at h
    cases h
/-- a slice whose cells are known -/
theorem rd_of {w : World} {a : Addr} {n c size : Nat} {cs : List Value} (hsz : 0 < size) (h1 : n ≤ c) (h2 : c ≤ maxLen) (h3 : cs.length = n * size) (h4 : ∀ j u, cs[j]? = some u → w.cell? (a.add j) = some u) : Rd w w.heap.size size (some a) n c cs := by
  refine ⟨h1, h2, h3, fun hn => ?_⟩
  have hl : 0 < cs.length := by rw [h3]; exact Nat.mul_pos hn hsz
  have h0 := h4 0 _ (List.getElem?_eq_getElem hl)
  have e0 : a.add 0 = a := by simp [Addr.add]
  rw [e0] at h0
  have ea := spot_of_cell h0
  refine ⟨a.block, a.off, by rw [← ea], block_of_cell h0, fun j u hj => ?_⟩
  have := h4 j u hj
  rw [ea] at this
  rcases Nat.eq_zero_or_pos j with rfl | hj0
  · simpa [Addr.add] using this
  · simpa [Addr.add, Nat.ne_of_gt hj0] using this
theorem below_drewN_ {B : Nat} {a w : World} (h : Below B a w) (n : Nat) : Below B a (w.drewN n) := ⟨h.os, h.tape, h.output, h.size, h.block⟩
end Go.Proofs.Ytfncpcmaplhojaa
