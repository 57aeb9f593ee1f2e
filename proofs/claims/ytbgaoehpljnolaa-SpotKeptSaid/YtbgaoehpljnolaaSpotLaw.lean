/- Places, byte by byte: plain lists, no program. -/
import Derived.Test.YtbgaoehpljnolaaParts
namespace Go.Proofs.Ytbgaoehpljnolaa
set_option linter.unusedVariables false
set_option linter.unusedSimpArgs false

/-- where a place is behind what is done -/
def sp (late : Bool) : List U → Nat → Nat
  | [], _ => 0
  | some (some _) :: us, k => (if 0 < k ∨ late = true then 1 else 0) + sp late us k
  | none :: us, k + 1 => 1 + sp late us k
  | some none :: us, k + 1 => sp late us k
  | _, 0 => 0
theorem sp_puts (late : Bool) (s : List UInt8) (us : List U) (k : Nat) : sp late (s.map (fun b => some (some b)) ++ us) k = (if 0 < k ∨ late = true then s.length else 0) + sp late us k := by
  induction s with
  | nil => simp
  | cons x s ih =>
    simp only [List.map_cons, List.cons_append, sp, ih, List.length_cons]
    split <;> omega
theorem sp_keeps (late : Bool) (n : Nat) (us : List U) : ∀ k : Nat, sp late (List.replicate n none ++ us) k = if n ≤ k then n + sp late us (k - n) else k := by
  induction n with
  | zero => intro k; simp
  | succ n ih =>
    intro k
    rw [List.replicate_succ, List.cons_append]
    rcases k with _ | k
    · simp [sp]
    · simp only [sp, ih k]
      by_cases h : n ≤ k
      · rw [if_pos h, if_pos (by omega), show k + 1 - (n + 1) = k - n by omega]; omega
      · rw [if_neg h, if_neg (by omega)]; omega
theorem sp_cuts (late : Bool) (n : Nat) (us : List U) : ∀ k : Nat, sp late (List.replicate n (some none) ++ us) k = if n ≤ k then sp late us (k - n) else 0 := by
  induction n with
  | zero => intro k; simp
  | succ n ih =>
    intro k
    rw [List.replicate_succ, List.cons_append]
    rcases k with _ | k
    · simp [sp]
    · simp only [sp, ih k]
      by_cases h : n ≤ k
      · rw [if_pos h, if_pos (by omega), show k + 1 - (n + 1) = k - n by omega]
      · rw [if_neg h, if_neg (by omega)]
/-- what is still to come -/
def SpRest (late : Bool) (us : List U) (a f t tot : Nat) : Prop := (f ≤ a ∧ t + sp late us (a - f) = tot) ∨ (a < f ∧ t = tot)
theorem rest_put {late : Bool} {s : List UInt8} {us : List U} {a f t tot : Nat} (h : SpRest late (s.map (fun b => some (some b)) ++ us) a f t tot) (hc : f < a ∨ (late = true ∧ f = a)) : SpRest late us a f (t + s.length) tot := by
  rcases h with ⟨h1, h2⟩ | ⟨h1, h2⟩
  · rw [sp_puts, if_pos (by rcases hc with h | h; left; omega; right; exact h.1)] at h2
    exact .inl ⟨h1, by omega⟩
  · omega
theorem rest_noput {late : Bool} {s : List UInt8} {us : List U} {a f t tot : Nat} (h : SpRest late (s.map (fun b => some (some b)) ++ us) a f t tot) (hc : ¬ (f < a ∨ (late = true ∧ f = a))) : SpRest late us a f t tot := by
  rcases h with ⟨h1, h2⟩ | ⟨h1, h2⟩
  · rw [sp_puts, if_neg (by rintro (h | h); exact hc (.inl (by omega)); exact hc (by by_cases hf : f < a; exact .inl hf; exact .inr ⟨h, by omega⟩))] at h2
    exact .inl ⟨h1, by omega⟩
  · exact .inr ⟨h1, h2⟩
theorem rest_keep {late : Bool} {n : Nat} {us : List U} {a f t tot : Nat} (h : SpRest late (List.replicate n none ++ us) a f t tot) (y : Nat) (hy : (y : Int) = max 0 (min (n : Int) ((a : Int) - f))) : SpRest late us a (f + n) (t + y) tot := by
  rcases h with ⟨h1, h2⟩ | ⟨h1, h2⟩
  · rw [sp_keeps] at h2
    split at h2
    · exact .inl ⟨by omega, by rw [show a - (f + n) = a - f - n by omega]; omega⟩
    · exact .inr ⟨by omega, by omega⟩
  · exact .inr ⟨by omega, by omega⟩
theorem rest_cut {late : Bool} {n : Nat} {us : List U} {a f t tot : Nat} (h : SpRest late (List.replicate n (some none) ++ us) a f t tot) : SpRest late us a (f + n) t tot := by
  rcases h with ⟨h1, h2⟩ | ⟨h1, h2⟩
  · rw [sp_cuts] at h2
    split at h2
    · exact .inl ⟨by omega, by rw [show a - (f + n) = a - f - n by omega]; omega⟩
    · exact .inr ⟨by omega, by omega⟩
  · exact .inr ⟨by omega, by omega⟩
theorem sp_le (late : Bool) : ∀ (us : List U) (k : Nat), sp late us k ≤ nO us
  | [], k => by simp [sp]
  | none :: us, 0 => by simp [sp]
  | none :: us, k + 1 => by have := sp_le late us k; simp only [sp, nO]; omega
  | some none :: us, 0 => by simp [sp]
  | some none :: us, k + 1 => by have := sp_le late us k; simp only [sp, nO]; omega
  | some (some b) :: us, k => by have := sp_le late us k; simp only [sp, nO]; split <;> omega
theorem sp_early : ∀ (us : List U) (k : Nat), sp false us k ≤ sp true us k
  | [], k => by simp [sp]
  | none :: us, 0 => by simp [sp]
  | none :: us, k + 1 => by have := sp_early us k; simp only [sp]; omega
  | some none :: us, 0 => by simp [sp]
  | some none :: us, k + 1 => by have := sp_early us k; simp only [sp]; omega
  | some (some b) :: us, k => by have := sp_early us k; simp only [sp]; split <;> split <;> simp_all <;> omega
theorem sp_lt : ∀ (us : List U) (i k : Nat), i < k → sp true us i ≤ sp false us k
  | [], i, k, _ => by simp [sp]
  | none :: us, 0, k + 1, _ => by simp [sp]
  | none :: us, i + 1, k + 1, h => by have := sp_lt us i k (by omega); simp only [sp]; omega
  | some none :: us, 0, k + 1, _ => by simp [sp]
  | some none :: us, i + 1, k + 1, h => by have := sp_lt us i k (by omega); simp only [sp]; omega
  | some (some b) :: us, i, k, h => by
    have := sp_lt us i k h
    simp only [sp]
    rw [if_pos (.inr trivial), if_pos (.inl (by omega))]; omega
theorem sp_mono (late : Bool) (us : List U) (i k : Nat) (h : i ≤ k) : sp late us i ≤ sp late us k := by
  rcases Nat.eq_or_lt_of_le h with rfl | h
  · exact Nat.le_refl _
  · have h1 := sp_lt us i k h
    have h2 := sp_early us i
    have h3 := sp_early us k
    cases late <;> omega
theorem sp_zero : ∀ us : List U, sp false us 0 = 0
  | [] => rfl
  | none :: us => rfl
  | some none :: us => rfl
  | some (some b) :: us => by simp [sp, sp_zero us]
theorem sp_end : ∀ us : List U, sp true us (nI us) = nO us
  | [] => rfl
  | none :: us => by simp only [nI, nO, sp, sp_end us]; omega
  | some none :: us => by simp only [nI, nO, sp, sp_end us]
  | some (some b) :: us => by simp only [nI, nO, sp, sp_end us]; simp; omega
end Go.Proofs.Ytbgaoehpljnolaa
