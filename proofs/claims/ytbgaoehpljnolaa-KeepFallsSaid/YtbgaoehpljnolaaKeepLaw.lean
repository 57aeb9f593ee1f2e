/- Plain laws of what is kept. -/
import Derived.Test.YtbgaoehpljnolaaKeep
namespace Go.Proofs.Ytbgaoehpljnolaa
set_option linter.unusedVariables false
set_option linter.unusedSimpArgs false
set_option maxRecDepth 100000

theorem kL_mem (last every : Int) (p : List Int) (head : Int) (k : Nat) (x : Int) : x ∈ kL last every p head k ↔ 0 ≤ x ∧ x < (k : Int) ∧ kB last every p head x = true := by
  unfold kL
  simp only [List.mem_map, List.mem_filter, List.mem_range]
  constructor
  · rintro ⟨r, ⟨h1, h2⟩, rfl⟩
    exact ⟨by omega, by omega, h2⟩
  · rintro ⟨h1, h2, h3⟩
    obtain ⟨r, rfl⟩ := Int.eq_ofNat_of_zero_le h1
    exact ⟨r, ⟨by omega, h3⟩, rfl⟩
theorem kB_last {last every : Int} {p : List Int} {head r : Int} (h : head - last < r) : kB last every p head r = true := by unfold kB; simp [h]
theorem kB_every {last every : Int} {p : List Int} {head r : Int} (h : 0 < every) (h2 : r % every = 0) : kB last every p head r = true := by unfold kB; simp [h, h2]
theorem kB_pin {last every : Int} {p : List Int} {head r : Int} (h : r ∈ p) : kB last every p head r = true := by unfold kB; simp [h]
theorem filter_or {α : Type} (f g : α → Bool) (l : List α) : (l.filter (fun x => f x || g x)).length ≤ (l.filter f).length + (l.filter g).length := by
  induction l with
  | nil => simp
  | cons x l ih => by_cases h1 : f x <;> by_cases h2 : g x <;> simp [List.filter_cons, h1, h2] <;> omega
theorem count_last (c : Int) (n : Nat) : (((List.range n).filter (fun r : Nat => decide (c < (r : Int)))).length : Int) = if (n : Int) ≤ c + 1 then 0 else if c < 0 then (n : Int) else (n : Int) - c - 1 := by
  induction n with
  | zero => simp; omega
  | succ n ih =>
    rw [List.range_succ, List.filter_append, List.length_append]
    by_cases h : c < (n : Int)
    · simp only [List.filter_cons, h, decide_true, if_true, List.filter_nil, List.length_singleton]
      split at ih <;> split <;> (try split) <;> (try split at ih) <;> omega
    · simp only [List.filter_cons, h, decide_false, List.filter_nil]
      simp only [Bool.false_eq_true, if_false, List.length_nil, Nat.add_zero]
      rw [ih, if_pos (by omega), if_pos (by omega)]
theorem count_every (e : Nat) (he : 0 < e) (n : Nat) : ((List.range n).filter (fun r : Nat => decide ((r : Int) % (e : Int) = 0))).length ≤ (n + e - 1) / e := by
  induction n with
  | zero => simp
  | succ n ih =>
    rw [List.range_succ, List.filter_append, List.length_append]
    have e1 : n + 1 + e - 1 = n + e := by omega
    rw [e1, Nat.add_div_right _ he]
    by_cases h : n % e = 0
    · have hI : (n : Int) % (e : Int) = 0 := by rw [← Int.natCast_emod, h]; rfl
      simp only [List.filter_cons, hI, decide_true, if_true, List.filter_nil, List.length_singleton]
      have : (n + e - 1) / e ≤ n / e := by
        obtain ⟨q, hq⟩ : ∃ q, n = e * q := ⟨n / e, (Nat.mul_div_cancel' (Nat.dvd_of_mod_eq_zero h)).symm⟩
        rw [hq, Nat.mul_div_cancel_left _ he, Nat.add_sub_assoc (by omega), Nat.add_comm, Nat.add_mul_div_left _ _ he, Nat.div_eq_of_lt (by omega)]
        omega
      omega
    · have hI : ¬ (n : Int) % (e : Int) = 0 := by rw [← Int.natCast_emod]; omega
      simp only [List.filter_cons, hI, decide_false, List.filter_nil, Bool.false_eq_true, if_false, List.length_nil]
      have : (n + e - 1) / e ≤ n / e + 1 := by
        have : n + e - 1 ≤ n + e := by omega
        calc (n + e - 1) / e ≤ (n + e) / e := Nat.div_le_div_right this
          _ = n / e + 1 := Nat.add_div_right _ he
      omega
theorem count_pin (p : List Int) (n : Nat) : ((List.range n).filter (fun r : Nat => decide ((r : Int) ∈ p))).length ≤ p.length := by
  induction p with
  | nil => simp
  | cons x p ih =>
    have h1 : ∀ n : Nat, ((List.range n).filter (fun r : Nat => decide ((r : Int) = x))).length ≤ 1 := by
      intro n
      induction n with
      | zero => simp
      | succ n ihn =>
        rw [List.range_succ, List.filter_append, List.length_append]
        by_cases h : (n : Int) = x
        · have h0 : (List.range n).filter (fun r : Nat => decide ((r : Int) = x)) = [] := by
            rw [List.filter_eq_nil_iff]
            intro r hr
            have := List.mem_range.1 hr
            simp; omega
          rw [h0]
          simp [List.filter_cons, h]
        · simp [List.filter_cons, h]; simpa using ihn
    have e : (fun r : Nat => decide ((r : Int) ∈ x :: p)) = fun r : Nat => decide ((r : Int) = x) || decide ((r : Int) ∈ p) := by
      funext r
      rw [Bool.eq_iff_iff]
      simp
    rw [e]
    have := filter_or (fun r : Nat => decide ((r : Int) = x)) (fun r : Nat => decide ((r : Int) ∈ p)) (List.range n)
    have := h1 n
    simp only [List.length_cons]
    omega
theorem kL_most (last : Int) (p : List Int) (head e : Nat) (h1 : 1 ≤ last) :
    ((kL last e p head (head + 1)).length : Int) ≤ min last ((head : Int) + 1) + p.length + (if 0 < e then ((head / e : Nat) : Int) + 1 else 0) := by
  unfold kL
  rw [List.length_map]
  have e1 : (fun r : Nat => kB last e p head (r : Int)) = fun r : Nat => (decide ((head : Int) - last < (r : Int)) || (decide ((0 : Int) < (e : Int)) && decide ((r : Int) % (e : Int) = 0))) || decide ((r : Int) ∈ p) := rfl
  rw [e1]
  have f1 := filter_or (fun r : Nat => decide ((head : Int) - last < (r : Int)) || (decide ((0 : Int) < (e : Int)) && decide ((r : Int) % (e : Int) = 0))) (fun r : Nat => decide ((r : Int) ∈ p)) (List.range (head + 1))
  have f2 := filter_or (fun r : Nat => decide ((head : Int) - last < (r : Int))) (fun r : Nat => decide ((0 : Int) < (e : Int)) && decide ((r : Int) % (e : Int) = 0)) (List.range (head + 1))
  have f3 := count_last ((head : Int) - last) (head + 1)
  have f4 := count_pin p (head + 1)
  have f5 : ((List.range (head + 1)).filter (fun r : Nat => decide ((0 : Int) < (e : Int)) && decide ((r : Int) % (e : Int) = 0))).length ≤ if 0 < e then head / e + 1 else 0 := by
    by_cases he : 0 < e
    · rw [if_pos he]
      have := count_every e he (head + 1)
      rw [show head + 1 + e - 1 = head + e by omega, Nat.add_div_right _ he] at this
      have e2 : (fun r : Nat => decide ((0 : Int) < (e : Int)) && decide ((r : Int) % (e : Int) = 0)) = fun r : Nat => decide ((r : Int) % (e : Int) = 0) := by
        funext r
        simp [he]
      rw [e2]
      exact this
    · rw [if_neg he]
      simp [he]
  split at f3 <;> (try split at f3) <;> split at f5 <;> (rename_i hz; try rw [if_pos hz]; try rw [if_neg hz]) <;> omega
end Go.Proofs.Ytbgaoehpljnolaa
