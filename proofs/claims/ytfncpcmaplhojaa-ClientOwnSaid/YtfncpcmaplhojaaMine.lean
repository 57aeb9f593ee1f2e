/- Rows of parts of the call's own, short, of short texts. -/
import Derived.Test.YtfncpcmaplhojaaSpoilOwn
import Derived.Test.YtfncpcmaplhojaaComp
import Derived.Test.YtfncpcmaplhojaaInts
import Derived.Test.YtfncpcmaplhojaaMeet
import Derived.Test.YtfncpcmaplhojaaApply
namespace Go.Proofs.Ytfncpcmaplhojaa
open Go.ChangeShapes Go.WideShapes Go.RowKit
set_option linter.unusedVariables false
set_option linter.unusedSimpArgs false
set_option maxRecDepth 100000
set_option maxHeartbeats 4000000

/-- a row of the call's own, short, of short texts -/
structure Mine (w : World) (B : Nat) (v : Value) (l : List Pt) : Prop where
  own : OwnP w B v l
  len : l.length ≤ 1600
  txt : ∀ p ∈ l, p.2.2.size ≤ 140737488351232
theorem small_of {l : List Pt} (h : chk l = 0 ∨ l = []) : l.length ≤ 1600 ∧ ∀ p ∈ l, p.2.2.size ≤ 140737488351232 := by
  rcases h with h | rfl
  · exact ⟨((good_iff l).1 h).1, text_good h⟩
  · exact ⟨by simp, by simp⟩
theorem small_norm (l : List Pt) : chk (normL l) = 0 ∨ normL l = [] := by
  by_cases h : normE l = 0
  · exact .inl (norm_chk h).1
  · exact .inr (norm_err h)
theorem small_comp (a b : List Pt) : chk (compL a b) = 0 ∨ compL a b = [] := by
  by_cases h : compE a b = 0
  · exact .inl (comp_chk h).2.2.2.2
  · exact .inr (comp_err h)
theorem small_meetC (a b : List Pt) : chk (meetC a b) = 0 ∨ meetC a b = [] := by
  by_cases h : meetE a b = 0
  · exact .inl (meet_good h).1
  · exact .inr (meet_err h).1
theorem small_meetD (a b : List Pt) : chk (meetD a b) = 0 ∨ meetD a b = [] := by
  by_cases h : meetE a b = 0
  · exact .inl (meet_good h).2
  · exact .inr (meet_err h).2
theorem Mine.of {w : World} {B : Nat} {v : Value} {l : List Pt} (h : OwnP w B v l) (hs : chk l = 0 ∨ l = []) : Mine w B v l := ⟨h, (small_of hs).1, (small_of hs).2⟩
theorem Mine.step {w w' : World} {B : Nat} {v : Value} {l : List Pt} (h : Mine w B v l) (hb : Below w.heap.size w w') : Mine w' B v l := ⟨h.own.below hb, h.len, h.txt⟩
theorem Mine.only {w w' : World} {B : Nat} {v : Value} {l : List Pt} {S : Nat → Prop} (h : Mine w B v l) (ho : Only w w' S) (hv : ∀ k, v.ownBlock = some k → ¬ S k) : Mine w' B v l := ⟨own_only h.own ho hv, h.len, h.txt⟩
theorem Mine.rd {w : World} {B : Nat} {v : Value} {l : List Pt} (h : Mine w B v l) : ∃ A c, v = .slice A l.length c ∧ RdP w w.heap.size A l.length c l := h.own.rd h.txt
theorem Mine.form {w : World} {B : Nat} {v : Value} {l : List Pt} (h : Mine w B v l) : ∃ A n c, v = .slice A n c := by
  obtain ⟨A, c, e⟩ := h.own.form
  exact ⟨A, _, c, e⟩
theorem Mine.lt {w : World} {B : Nat} {v : Value} {l : List Pt} (h : Mine w B v l) : ∀ k, v.ownBlock = some k → B ≤ k ∧ k < w.heap.size := World.ownsRow.lt h.own
theorem Try.info_pl : (Try.prog.info? 27).map (fun i => (i.zero, i.size, i.bytes)) = some (some (.slice none 0 0), 1, 24) := by kernel_rfl
theorem own_ne_ {w : World} {B B' : Nat} {e e' : TypeId} {size size' n n' : Nat} {v v' : Value} {xs xs' : List Value} (h : w.ownsRow B e size v n xs) (h' : w.ownsRow B' e' size' v' n' xs') (hne : e ≠ e') : v.ownBlock = none ∨ v.ownBlock ≠ v'.ownBlock := by
  rcases h.2 with ⟨rfl, _⟩ | ⟨g, cap, cur, rfl, _, hg, _⟩
  · exact .inl rfl
  · rcases h'.2 with ⟨rfl, _⟩ | ⟨g', cap', cur', rfl, _, hg', _⟩
    · exact .inr (by simp [Value.ownBlock])
    · refine .inr fun he => ?_
      simp only [Value.ownBlock, Option.some.injEq] at he
      subst he
      rw [hg] at hg'
      injection hg' with hg'
      injection hg' with _ h2
      exact hne h2
theorem Mine.grown {w w' : World} {B B' : Nat} {v v' : Value} {l : List Pt} {n' size' : Nat} {xs' : List Value} (h : Mine w B v l) (hr : w.ownsRow B' 27 size' v' n' xs') (hg : w.grownBy w' v'.ownBlock) : Mine w' B v l :=
  ⟨own_kept h.own hg (own_ne_ h.own hr (by decide)), h.len, h.txt⟩
end Go.Proofs.Ytfncpcmaplhojaa
