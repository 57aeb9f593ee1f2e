/- Contracts of part.Norm, part.Idle, scrivref.In. -/
import Derived.Test.YtfncpcmaplhojaaMaker3
import Derived.Test.YtfncpcmaplhojaaNormLaw
namespace Go.Proofs.Ytfncpcmaplhojaa
open Go.ChangeShapes Go.WideShapes Go.RowKit
set_option linter.unusedVariables false
set_option linter.unusedSimpArgs false
set_option maxRecDepth 100000
set_option maxHeartbeats 4000000

section
variable {w w' : World} {B g : Nat} {ob ob' : Option Nat} {us : List U} {S : Nat → Prop}
theorem Mk.alloc (h : Mk w B g ob us) (o : Obj) : Mk (w.alloc o) B g ob us := by
  obtain ⟨o', p, c, ⟨v, h1, h2, h3⟩, h4⟩ := h
  exact ⟨o', p, c, ⟨v, h1.alloc o, World.ownsRow.alloc h2 o, h3⟩, h4⟩
theorem Mk.ge (h : Mk w B g ob us) : ∀ k, ob = some k → B ≤ k ∧ k < w.heap.size ∧ k ≠ g := by
  obtain ⟨o', p, c, ⟨v, h1, h2, h3⟩, h4⟩ := h
  intro k hk
  rw [← h3] at hk
  refine ⟨own_ge h2 k hk, own_lt h2 k hk, fun e => ?_⟩
  subst e
  exact own_blk_ne (t := 165) h2 h1 (by decide) hk
theorem Mk.lt (h : Mk w B g ob us) : g < w.heap.size := by
  obtain ⟨o', p, c, ⟨v, h1, h2, h3⟩, h4⟩ := h
  exact h1.lt
theorem Mk.only (h : Mk w B g ob us) (ho : Only w w' S) (h1 : ¬ S g) (h2 : ∀ k, ob = some k → ¬ S k) : Mk w' B g ob us := by
  obtain ⟨o', p, c, ⟨v, h3, h4, h5⟩, h6⟩ := h
  exact ⟨o', p, c, ⟨v, h3.only ho h1, own_only h4 ho fun k hk => h2 k (by rw [← h5]; exact hk), h5⟩, h6⟩
theorem MFr.below_ (h : MFr w w' g ob ob') (hB : B ≤ w.heap.size) (hg : B ≤ g) (ho : ∀ k, ob = some k → B ≤ k) : Below B w w' := h.1.below hB fun k hk => by
  rcases hk with rfl | hk
  · exact hg
  · exact ho k hk
theorem Mk.fresh (w : World) (o : Obj) : Mk (w.alloc (.cells #[.slice none 0 0, .string ⟨#[]⟩, .int .i64 0] 165)) w.heap.size w.heap.size none [] :=
  ⟨[], emp, 0, ⟨_, Blk.new w _ _, OwnP.nil _ _, rfl⟩, MRep.new⟩
end
/-- the result of a call that makes a delta or tells an error -/
def ResP (w w' : World) (e : Ending) (er : Int) (l : List Pt) : Prop := ∃ v, e = .returned (.tuple #[v, .int .i64 er]) ∧ OwnP w' w.heap.size v l ∧ Below w.heap.size w w'
theorem ResP.err (w : World) {w' : World} (er : Int) (hb : Below w.heap.size w w') : ResP w w' (.returned (.tuple #[.slice none 0 0, .int .i64 er])) er [] := ⟨_, rfl, OwnP.nil _ _, hb⟩
theorem ResP.rd {w w' : World} {e : Ending} {er : Int} {l : List Pt} (h : ResP w w' e er l) (ht : ∀ p ∈ l, p.2.2.size ≤ 140737488351232) :
    ∃ A c, e = .returned (.tuple #[.slice A l.length c, .int .i64 er]) ∧ RdP w' w'.heap.size A l.length c l ∧ Below w.heap.size w w' := by
  obtain ⟨v, rfl, ho, hb⟩ := h
  obtain ⟨A, c, rfl, hr⟩ := ho.rd ht
  exact ⟨A, c, rfl, hr, hb⟩
/-- how a part may be wrong -/
inductive PC (kd m : Int) (t : ByteArray) : Prop
  | lo (h : kd < 1) | hi (h : 3 < kd)
  | neg (k : kd = 1 ∨ kd = 2 ∨ kd = 3) (h : m < 0)
  | num (k : kd = 2) (h : 0 < m)
  | txt (k : kd = 1 ∨ kd = 3) (h : 0 ≤ m) (ht : t.toList.isEmpty = false) (h1 : 1 ≤ (t.size : Int))
  | big (k : kd = 1 ∨ kd = 3) (h : 500 < m) (ht : t = ⟨#[]⟩)
  | bigt (k : kd = 2) (h : m = 0) (ht : 500 < (t.size : Int))
  | keep (k : kd = 1) (h : 0 ≤ m) (h5 : m ≤ 500) (ht : t = ⟨#[]⟩)
  | cut (k : kd = 3) (h : 0 ≤ m) (h5 : m ≤ 500) (ht : t = ⟨#[]⟩)
  | put (k : kd = 2) (h : m = 0) (ht : (t.size : Int) ≤ 500)
theorem pc_any (kd m : Int) (t : ByteArray) : PC kd m t := by
  by_cases h1 : kd < 1
  · exact .lo h1
  by_cases h3 : 3 < kd
  · exact .hi h3
  by_cases hm : m < 0
  · exact .neg (by omega) hm
  by_cases h2 : kd = 2
  · by_cases h0 : 0 < m
    · exact .num h2 h0
    · by_cases ht : 500 < t.size
      · exact .bigt h2 (by omega) (by omega)
      · exact .put h2 (by omega) (by omega)
  · rcases str_cases t with ht | ⟨ht, ht1⟩
    · by_cases h5 : 500 < m
      · exact .big (by omega) h5 ht
      · rcases (show kd = 1 ∨ kd = 3 by omega) with hk | hk
        · exact .keep hk (by omega) (by omega) ht
        · exact .cut hk (by omega) (by omega) ht
    · exact .txt (by omega) (by omega) ht ht1
theorem norm_step (l : List Pt) (k : Nat) (h : k < l.length) (hz : nerr (l.take k) = 0) : nerr1 l[k] ≠ 0 → nerr l = nerr1 l[k] := by
  intro hne
  have e : l = l.take k ++ (l[k] :: l.drop (k + 1)) := by
    rw [← List.drop_eq_getElem_cons h, List.take_append_drop]
  have h2 : nerr l = nerr (l[k] :: l.drop (k + 1)) := by
    conv => lhs; rw [e]
    exact nerr_append _ _ hz
  rw [h2]
  simp only [nerr]
  rw [if_pos hne]
theorem texts_norm (l : List Pt) : ∀ p ∈ normL l, p.2.2.size ≤ 140737488351232 := by
  by_cases h : normE l = 0
  · exact text_good (norm_chk h).1
  · rw [norm_err h]; simp
end Go.Proofs.Ytfncpcmaplhojaa
