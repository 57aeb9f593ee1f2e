/- The tiers of a history as lists, and that their joining never fails (pure). -/
import Derived.Test.YtfncpcmaplhojaaLevBlk
namespace Go.Proofs.Ytfncpcmaplhojaa
set_option linter.unusedVariables false

def tiersF : Nat → List (List Pt) → List (List (List Pt))
  | 0, _ => []
  | f + 1, r => if r.length = 0 then [] else r :: tiersF f (nxt r)
def tiersL (l : List Rv) : List (List (List Pt)) := tiersF 8 (l.map fun r => r.2.2)
theorem lev_nxt (l : List (List Pt)) : ∀ n, lvl (nxt l) n = nxt (lvl l n)
  | 0 => rfl
  | n + 1 => by rw [lvl, lev_nxt l n]; rfl
theorem tiersF_at : ∀ (f : Nat) (r : List (List Pt)) (n : Nat) (x : List (List Pt)), (tiersF f r)[n]? = some x → x = lvl r n ∧ 0 < x.length
  | 0, r, n, x, h => by simp [tiersF] at h
  | f + 1, r, n, x, h => by
    by_cases h0 : r.length = 0
    · rw [tiersF, if_pos h0] at h; simp at h
    · rw [tiersF, if_neg h0] at h
      match n with
      | 0 =>
        simp only [List.getElem?_cons_zero, Option.some.injEq] at h
        subst h
        exact ⟨rfl, by omega⟩
      | n + 1 =>
        rw [List.getElem?_cons_succ] at h
        have := tiersF_at f _ n x h
        rw [lev_nxt] at this
        exact this
theorem tiersF_len : ∀ (f : Nat) (r : List (List Pt)), r.length < 2 ^ f → r.length / 2 ^ (tiersF f r).length = 0
  | 0, r, h => by simp at h; simp [tiersF, h]
  | f + 1, r, h => by
    by_cases h0 : r.length = 0
    · rw [tiersF, if_pos h0]; simp [h0]
    · rw [tiersF, if_neg h0, List.length_cons]
      have h1 : (nxt r).length < 2 ^ f := by
        rw [nxt_len, Nat.div_lt_iff_lt_mul (by decide)]
        rw [Nat.pow_succ] at h
        exact h
      have := tiersF_len f (nxt r) h1
      rw [nxt_len, Nat.div_div_eq_div_mul] at this
      rw [Nat.pow_succ, Nat.mul_comm]
      exact this
theorem tiersF_le : ∀ (f : Nat) (r : List (List Pt)), (tiersF f r).length ≤ f
  | 0, r => by simp [tiersF]
  | f + 1, r => by
    by_cases h0 : r.length = 0
    · rw [tiersF, if_pos h0]; simp
    · rw [tiersF, if_neg h0, List.length_cons]; have := tiersF_le f (nxt r); omega
theorem tiersF_pos {f : Nat} {r : List (List Pt)} (h : r.length ≠ 0) : 0 < (tiersF (f + 1) r).length := by
  rw [tiersF, if_neg h]; simp
/-- two neighbours of a level are joined without fail -/
theorem lev_comp {base : ByteArray} {l : List Rv} (h : txE base l = 0) (n k : Nat) (a b : List Pt) (ha : (lvl (l.map fun r => r.2.2) n)[2 * k]? = some a)
    (hb : (lvl (l.map fun r => r.2.2) n)[2 * k + 1]? = some b) : compE a b = 0 := by
  have hlen := lev_len (l.map fun r => r.2.2) n
  rw [List.length_map] at hlen
  have hlt : 2 * k + 1 < l.length / 2 ^ n := by
    rw [← hlen]
    exact (List.getElem?_eq_some_iff.1 hb).1
  have hm : (2 * k + 1 + 1) * 2 ^ n ≤ l.length := by
    have := Nat.div_mul_le_self l.length (2 ^ n)
    have h2 : (2 * k + 1 + 1) * 2 ^ n ≤ l.length / 2 ^ n * 2 ^ n := Nat.mul_le_mul_right _ (by omega)
    omega
  have h1 : 2 * k * 2 ^ n ≤ (2 * k + 1) * 2 ^ n := Nat.mul_le_mul_right _ (by omega)
  have h2 : (2 * k + 1) * 2 ^ n ≤ (2 * k + 1 + 1) * 2 ^ n := Nat.mul_le_mul_right _ (by omega)
  have ea := lev_bk h n (2 * k) (by omega)
  have eb := lev_bk h n (2 * k + 1) hm
  rw [ea] at ha
  rw [eb] at hb
  injection ha with ha
  injection hb with hb
  subst ha; subst hb
  exact (parts_law h _ _ _ h1 h2 hm).1
end Go.Proofs.Ytfncpcmaplhojaa
