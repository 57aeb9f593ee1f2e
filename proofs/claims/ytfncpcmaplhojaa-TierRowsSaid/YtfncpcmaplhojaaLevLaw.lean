/- The levels of tier.Build as lists (pure). -/
import Derived.Test.YtfncpcmaplhojaaCompLaw
namespace Go.Proofs.Ytfncpcmaplhojaa
set_option linter.unusedVariables false

/-- the row above a row -/
def nxt : List (List Pt) → List (List Pt)
  | a :: b :: r => compL a b :: nxt r
  | _ => []
theorem nxt_len : ∀ l, (nxt l).length = l.length / 2
  | [] => by simp [nxt]
  | [_] => by simp [nxt]
  | a :: b :: r => by
    simp only [nxt, List.length_cons, nxt_len r]
    omega
theorem nxt_at : ∀ (l : List (List Pt)) (k : Nat) (a b : List Pt), l[2 * k]? = some a → l[2 * k + 1]? = some b → (nxt l)[k]? = some (compL a b)
  | [], k, a, b, h, _ => by simp at h
  | [x], k, a, b, _, h => by
    simp at h
  | x :: y :: r, 0, a, b, h1, h2 => by
    simp at h1 h2
    subst h1; subst h2
    rfl
  | x :: y :: r, k + 1, a, b, h1, h2 => by
    rw [show 2 * (k + 1) = 2 * k + 1 + 1 by omega, List.getElem?_cons_succ, List.getElem?_cons_succ] at h1
    rw [show 2 * (k + 1) + 1 = (2 * k + 1) + 1 + 1 by omega, List.getElem?_cons_succ, List.getElem?_cons_succ] at h2
    simp only [nxt, List.getElem?_cons_succ]
    exact nxt_at r k a b h1 h2
/-- the n-th row -/
def lvl (l : List (List Pt)) : Nat → List (List Pt)
  | 0 => l
  | n + 1 => nxt (lvl l n)
theorem lev_len (l : List (List Pt)) (n : Nat) : (lvl l n).length = l.length / 2 ^ n := by
  induction n with
  | zero => simp [lvl]
  | succ n ih => rw [lvl, nxt_len, ih, Nat.div_div_eq_div_mul, Nat.pow_succ]
end Go.Proofs.Ytfncpcmaplhojaa
