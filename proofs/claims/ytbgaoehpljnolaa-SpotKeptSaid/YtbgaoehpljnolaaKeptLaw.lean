/- Where a kept byte is; plain lists, no program. -/
import Derived.Test.YtbgaoehpljnolaaSpotLaw
import Derived.Test.YtbgaoehpljnolaaTurnLaw
namespace Go.Proofs.Ytbgaoehpljnolaa
set_option linter.unusedVariables false
set_option linter.unusedSimpArgs false

/-- where the byte at a place is behind what is done, if it is kept -/
def kp : List U → Nat → Option Nat
  | none :: _, 0 => some 0
  | none :: us, i + 1 => (kp us i).map (· + 1)
  | some none :: _, 0 => none
  | some none :: us, i + 1 => kp us i
  | some (some _) :: us, i => (kp us i).map (· + 1)
  | [], _ => none
theorem kp_insC : ∀ (us : List U), kp (insC us) 0 = none ∧ ∀ i, kp (insC us) (i + 1) = kp us i
  | [] => ⟨rfl, fun i => rfl⟩
  | none :: us => ⟨rfl, fun i => rfl⟩
  | some none :: us => ⟨rfl, fun i => rfl⟩
  | some (some b) :: us => by
    have ih := kp_insC us
    refine ⟨by simp [insC, kp, ih.1], fun i => by simp [insC, kp, ih.2 i]⟩
theorem kp_cz : ∀ (us : List U) (i : Nat), kp (cz us) i = kp us i
  | [], _ => rfl
  | none :: us, 0 => rfl
  | none :: us, i + 1 => by simp [cz, kp, kp_cz us i]
  | some none :: us, 0 => by simp only [cz, kp]; exact (kp_insC _).1
  | some none :: us, i + 1 => by simp only [cz, kp]; rw [(kp_insC _).2 i, kp_cz us i]
  | some (some b) :: us, i => by simp [cz, kp, kp_cz us i]
theorem kp_some : ∀ (us : List U) (i p : Nat), kp us i = some p → sp true us i = p ∧ sp false us (i + 1) = p + 1 ∧ p < nO us
  | [], _, _, h => by simp [kp] at h
  | none :: us, 0, p, h => by
    simp only [kp, Option.some.injEq] at h
    subst h
    exact ⟨rfl, by simp only [sp]; rw [sp_zero], by simp [nO]⟩
  | none :: us, i + 1, p, h => by
    simp only [kp, Option.map_eq_some_iff] at h
    obtain ⟨q, h1, rfl⟩ := h
    have ih := kp_some us i q h1
    simp only [sp, nO]; omega
  | some none :: us, 0, p, h => by simp [kp] at h
  | some none :: us, i + 1, p, h => by
    have ih := kp_some us i p h
    simp only [sp, nO]; omega
  | some (some b) :: us, i, p, h => by
    simp only [kp, Option.map_eq_some_iff] at h
    obtain ⟨q, h1, rfl⟩ := h
    have ih := kp_some us i q h1
    simp only [sp, nO]
    rw [if_pos (.inr trivial), if_pos (.inl (by omega))]; omega
theorem kp_none : ∀ (us : List U) (i : Nat), i < nI us → kp us i = none → sp false us (i + 1) = sp true us i
  | [], i, h, _ => by simp [nI] at h
  | none :: us, 0, _, h => by simp [kp] at h
  | none :: us, i + 1, hi, h => by
    simp only [kp, Option.map_eq_none_iff] at h
    have ih := kp_none us i (by simpa [nI] using hi) h
    simp only [sp]; omega
  | some none :: us, 0, _, _ => by simp only [sp]; exact sp_zero us
  | some none :: us, i + 1, hi, h => by
    have ih := kp_none us i (by simpa [nI] using hi) h
    simp only [sp]; omega
  | some (some b) :: us, i, hi, h => by
    simp only [kp, Option.map_eq_none_iff] at h
    have ih := kp_none us i (by simpa [nI] using hi) h
    simp only [sp]
    rw [if_pos (.inl (by omega)), if_pos (.inr trivial)]; omega
theorem ap_kp {α : Type} (f : UInt8 → α) : ∀ (us : List U) (s : List α) (i p : Nat), nI us = s.length → kp us i = some p → (ap f us s)[p]? = s[i]?
  | [], _, _, _, _, h => by simp [kp] at h
  | none :: us, [], _, _, hn, _ => by simp [nI] at hn
  | none :: us, x :: s, 0, p, hn, h => by
    simp only [kp, Option.some.injEq] at h
    subst h
    simp [ap]
  | none :: us, x :: s, i + 1, p, hn, h => by
    simp only [kp, Option.map_eq_some_iff] at h
    obtain ⟨q, h1, rfl⟩ := h
    simpa [ap] using ap_kp f us s i q (by simpa [nI] using hn) h1
  | some none :: us, [], _, _, hn, _ => by simp [nI] at hn
  | some none :: us, x :: s, 0, p, hn, h => by simp [kp] at h
  | some none :: us, x :: s, i + 1, p, hn, h => by
    simpa [ap] using ap_kp f us s i p (by simpa [nI] using hn) h
  | some (some b) :: us, s, i, p, hn, h => by
    simp only [kp, Option.map_eq_some_iff] at h
    obtain ⟨q, h1, rfl⟩ := h
    simpa [ap] using ap_kp f us s i q (by simpa [nI] using hn) h1
theorem kp_tn : ∀ (us : List U) (s : List UInt8) (i p : Nat), nI us = s.length → kp us i = some p → kp (tn us s) p = some i
  | [], _, _, _, _, h => by simp [kp] at h
  | none :: us, [], _, _, hn, _ => by simp [nI] at hn
  | none :: us, x :: s, 0, p, hn, h => by
    simp only [kp, Option.some.injEq] at h
    subst h
    rfl
  | none :: us, x :: s, i + 1, p, hn, h => by
    simp only [kp, Option.map_eq_some_iff] at h
    obtain ⟨q, h1, rfl⟩ := h
    have ih := kp_tn us s i q (by simpa [nI] using hn) h1
    simp [tn, kp, ih]
  | some none :: us, [], _, _, hn, _ => by simp [nI] at hn
  | some none :: us, x :: s, 0, p, hn, h => by simp [kp] at h
  | some none :: us, x :: s, i + 1, p, hn, h => by
    have ih := kp_tn us s i p (by simpa [nI] using hn) h
    simp [tn, kp, ih]
  | some (some b) :: us, s, i, p, hn, h => by
    simp only [kp, Option.map_eq_some_iff] at h
    obtain ⟨q, h1, rfl⟩ := h
    have ih := kp_tn us s i q (by simpa [nI] using hn) h1
    simp [tn, kp, ih]
theorem kept_turn {d : List Pt} {s : ByteArray} (h : doE d s = 0) {i p : Nat} (hk : kp (units d) i = some p) : sp true (units (turnL d s)) p = i := by
  have hn : nI (units d) = s.data.toList.length := (do_chk h).2.1
  have h1 := kp_tn (units d) s.data.toList i p hn hk
  rw [← kp_cz, ← (turn_ok h).2.2.1] at h1
  exact (kp_some _ _ _ h1).1
end Go.Proofs.Ytbgaoehpljnolaa
