/- Contracts of catchup.Of. -/
import Derived.Test.YtfncpcmaplhojaaBetween
import Derived.Test.YtfncpcmaplhojaaMeet
namespace Go.Proofs.Ytfncpcmaplhojaa
open Go.ChangeShapes Go.WideShapes Go.RowKit
set_option linter.unusedVariables false
set_option linter.unusedSimpArgs false
set_option maxRecDepth 100000
set_option maxHeartbeats 4000000

theorem results_tmp4 {fn : Func} {t u v x : Tmp} (h : fn.results = #[.tmp t, .tmp u, .tmp v, .tmp x]) (tmps : Array Value) (P : Program) (w : World) :
    (results fn tmps).run P w = .ok (.tuple #[tmps.getD t undef, tmps.getD u undef, tmps.getD v undef, tmps.getD x undef]) w := by
  simp [results, h]
def btwL (base : ByteArray) (l : List Rv) (i k : Nat) : List Pt := btw (allL (txt base l i).size) ((l.drop i).take (k - i))
theorem meet_rdm (a b : List Pt) (A A' : Option Addr) (n n' c c' : Nat) (w : World) (h : RdP w w.heap.size A n c a) (h' : RdP w w.heap.size A' n' c' b) (z : Int) (x y : List Pt) (hz : meetE a b = z) (hx : meetC a b = x) (hy : meetD a b = y) :
    Calls Try.prog 71 #[.slice A n c, .slice A' n' c'] w fun e w' => ∃ A1 n1 c1 A2 n2 c2, e = .returned (.tuple #[.slice A1 n1 c1, .slice A2 n2 c2, .int .i64 z]) ∧
      RdP w' w'.heap.size A1 n1 c1 x ∧ RdP w' w'.heap.size A2 n2 c2 y ∧ Below w.heap.size w w' := by
  subst hz; subst hx; subst hy
  refine (meet_rd a b A A' n n' c c' w h h').mono ?_
  rintro e w' ⟨A1, c1, A2, c2, rfl, h1, h2, hb⟩
  exact ⟨_, _, _, _, _, _, rfl, h1, h2, hb⟩
/-- what goes wrong -/
def CaErr (base : ByteArray) (l : List Rv) (r : Int) (mine : List Pt) (E : Int) : Prop :=
  E ≠ 0 ∧ ((txE base l = E) ∨ (txE base l = 0 ∧ (r < 0 ∨ (l.length : Int) < r) ∧ E = 1) ∨ ∃ k : Nat, r = (k : Int) ∧ k ≤ l.length ∧ txE base l = 0 ∧ (doE mine (txt base l k) = E ∨ (doE mine (txt base l k) = 0 ∧ meetE (btwL base l k l.length) mine = E)))
/-- all goes well -/
def CaOk (base : ByteArray) (l : List Rv) (k : Nat) (mine : List Pt) : Prop := k ≤ l.length ∧ txE base l = 0 ∧ doE mine (txt base l k) = 0 ∧ meetE (btwL base l k l.length) mine = 0
theorem ca_cases (base : ByteArray) (l : List Rv) (r : Int) (mine : List Pt) : (∃ E, CaErr base l r mine E) ∨ ∃ k : Nat, r = (k : Int) ∧ CaOk base l k mine := by
  by_cases h1 : txE base l = 0
  · by_cases h2 : r < 0 ∨ (l.length : Int) < r
    · exact .inl ⟨1, by omega, .inr (.inl ⟨h1, h2, rfl⟩)⟩
    · obtain ⟨k, rfl⟩ : ∃ k : Nat, r = (k : Int) := ⟨r.toNat, by omega⟩
      by_cases h3 : doE mine (txt base l k) = 0
      · by_cases h4 : meetE (btwL base l k l.length) mine = 0
        · exact .inr ⟨k, rfl, by omega, h1, h3, h4⟩
        · exact .inl ⟨_, h4, .inr (.inr ⟨k, rfl, by omega, h1, .inr ⟨h3, rfl⟩⟩)⟩
      · exact .inl ⟨_, h3, .inr (.inr ⟨k, rfl, by omega, h1, .inl rfl⟩)⟩
  · exact .inl ⟨_, h1, .inl rfl⟩
end Go.Proofs.Ytfncpcmaplhojaa
