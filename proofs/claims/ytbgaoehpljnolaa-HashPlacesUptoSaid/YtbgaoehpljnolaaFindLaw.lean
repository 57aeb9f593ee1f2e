/- hash.Find, plain: the rolling sum, the places. -/
import Derived.Test.YtbgaoehpljnolaaHash
namespace Go.Proofs.Ytbgaoehpljnolaa
open Go.ChangeShapes Go.WideShapes Go.RowKit
set_option linter.unusedVariables false
set_option linter.unusedSimpArgs false
set_option maxRecDepth 100000

/-- the first byte goes -/
theorem hash_drop (c : UInt8) (m : List UInt8) : (hashL (c :: m) + 2147483647 - (c.toNat + 1) * powN m.length % 2147483647) % 2147483647 = hashL m := by
  have h := hashL_append [c] m
  rw [List.singleton_append] at h
  have h1 : hashL [c] = c.toNat + 1 := by
    have := c.toNat_lt
    show (0 * 257 + c.toNat + 1) % 2147483647 = _
    omega
  have hp : powN m.length = 257 ^ m.length % 2147483647 := by unfold powN; rfl
  rw [h1, ← hp] at h
  have hm := hashL_lt m
  rw [h]
  generalize (c.toNat + 1) * powN m.length = X
  generalize hashL m = Y at *
  omega
/-- the next byte comes -/
theorem hash_snoc (m : List UInt8) (d : UInt8) : hashL (m ++ [d]) = (hashL m * 257 + d.toNat + 1) % 2147483647 := by
  unfold hashL
  rw [List.foldl_append]
  rfl
/-- the window at k -/
def win (t : List UInt8) (n k : Nat) : List UInt8 := (t.drop k).take n
theorem win_len {t : List UInt8} {n k : Nat} (h : k + n ≤ t.length) : (win t n k).length = n := by
  unfold win; rw [List.length_take, List.length_drop]; omega
theorem win_next {t : List UInt8} {n k : Nat} (hn : 0 < n) (h : k + n < t.length) : ∃ m, m.length = n - 1 ∧ win t n k = t[k]'(by omega) :: m ∧ win t n (k + 1) = m ++ [t[k + n]'h] := by
  refine ⟨(t.drop (k + 1)).take (n - 1), by rw [List.length_take, List.length_drop]; omega, ?_, ?_⟩
  · unfold win
    rw [List.drop_eq_getElem_cons (show k < t.length by omega)]
    obtain ⟨n', rfl⟩ : ∃ n', n = n' + 1 := ⟨n - 1, by omega⟩
    rw [List.take_succ_cons, Nat.add_sub_cancel]
  · unfold win
    obtain ⟨n', rfl⟩ : ∃ n', n = n' + 1 := ⟨n - 1, by omega⟩
    have hl : n' < (t.drop (k + 1)).length := by rw [List.length_drop]; omega
    rw [List.take_succ_eq_append_getElem hl, Nat.add_sub_cancel]
    congr 2
    rw [List.getElem_drop]
    congr 1
    omega
def places (t p : List UInt8) (k : Nat) : List Int := ((List.range k).filter fun i => decide (win t p.length i = p)).map Int.ofNat
theorem places_hit {t p : List UInt8} {k : Nat} (h : win t p.length k = p) : places t p (k + 1) = places t p k ++ [(k : Int)] := by
  unfold places
  rw [List.range_succ, List.filter_append, List.map_append]
  simp [h]
theorem places_miss {t p : List UInt8} {k : Nat} (h : win t p.length k ≠ p) : places t p (k + 1) = places t p k := by
  unfold places
  rw [List.range_succ, List.filter_append, List.map_append]
  simp [h]
theorem places_len (t p : List UInt8) (k : Nat) : (places t p k).length ≤ k := by
  unfold places
  rw [List.length_map]
  have := List.length_filter_le (fun i => decide (win t p.length i = p)) (List.range k)
  rw [List.length_range] at this
  exact this
theorem mem_places {t p : List UInt8} {k : Nat} {x : Int} : x ∈ places t p k ↔ ∃ i : Nat, x = i ∧ i < k ∧ win t p.length i = p := by
  unfold places
  simp only [List.mem_map, List.mem_filter, List.mem_range, decide_eq_true_eq]
  constructor
  · rintro ⟨i, ⟨h1, h2⟩, rfl⟩
    exact ⟨i, rfl, h1, h2⟩
  · rintro ⟨i, rfl, h1, h2⟩
    exact ⟨i, ⟨h1, h2⟩, rfl⟩
def findE (p : List UInt8) : Int := if p = [] then 1 else 0
def findL (t p : List UInt8) : List Int := if p = [] then [] else if t.length < p.length then [] else places t p (t.length + 1 - p.length)
theorem mem_find {t p : List UInt8} (hp : p ≠ []) {x : Int} : x ∈ findL t p ↔ ∃ i : Nat, x = i ∧ i + p.length ≤ t.length ∧ win t p.length i = p := by
  have hl : 0 < p.length := List.length_pos_iff.2 hp
  unfold findL
  rw [if_neg hp]
  split
  · constructor
    · intro h; cases h
    · rintro ⟨i, _, h1, _⟩; omega
  · rw [mem_places]
    constructor
    · rintro ⟨i, h1, h2, h3⟩; exact ⟨i, h1, by omega, h3⟩
    · rintro ⟨i, h1, h2, h3⟩; exact ⟨i, h1, by omega, h3⟩
theorem win_left {a b p : List UInt8} {i : Nat} (h : i + p.length ≤ a.length) : win (a ++ b) p.length i = win a p.length i := by
  unfold win
  rw [List.drop_append_of_le_length (by omega), List.take_append_of_le_length (by rw [List.length_drop]; omega)]
theorem win_right (a b p : List UInt8) (i : Nat) : win (a ++ b) p.length (a.length + i) = win b p.length i := by
  unfold win
  rw [List.drop_append, List.drop_eq_nil_of_le (by omega), List.nil_append]
  congr 2
  omega
theorem roll_next {t : List UInt8} {n k Q : Nat} (hn : 0 < n) (h : k + n < t.length) (hQ : powN (n - 1) = Q) :
    hashL (win t n (k + 1)) = (((hashL (win t n k) + 2147483647 - ((t[k]'(by omega)).toNat + 1) * Q % 2147483647) % 2147483647) * 257 + (t[k + n]'h).toNat + 1) % 2147483647 := by
  obtain ⟨m, h1, h2, h3⟩ := win_next hn h
  rw [h3, hash_snoc, h2, ← hQ, ← h1, hash_drop]
theorem roll_val (H Q c d : Nat) (hH : (H : Int) ≤ 2147483646) (hQ : (Q : Int) ≤ 2147483646) (hc : c < 256) (hd : d < 256) :
    (wrap64 (wrap64 (wrap64 ((wrap64 (wrap64 ((H : Int) - (wrap64 (((c : Int) + 1) * (Q : Int))).tmod 2147483647) + 2147483647)).tmod 2147483647 * 257) + (d : Int)) + 1)).tmod 2147483647 = ((((H + 2147483647 - (c + 1) * Q % 2147483647) % 2147483647) * 257 + d + 1) % 2147483647 : Nat) := by
  have w : ∀ x : Int, -4611686018427387904 ≤ x → x ≤ 4611686018427387904 → wrap64 x = x := fun x h1 h2 => IntWalk.wrap64_in x ⟨by omega, by omega⟩
  obtain ⟨M, hM⟩ : ∃ M, (c + 1) * Q = M := ⟨_, rfl⟩
  have hMl : M ≤ 256 * 2147483647 := by rw [← hM]; exact Nat.mul_le_mul (by omega) (by omega)
  have hMi : ((c : Int) + 1) * (Q : Int) = (M : Int) := by rw [← hM, Int.natCast_mul]; rfl
  rw [hMi, w (M : Int) (by omega) (by omega), hM, Int.tmod_eq_emod_of_nonneg (show (0 : Int) ≤ (M : Int) by omega)]
  rw [w ((H : Int) - (M : Int) % 2147483647) (by omega) (by omega), w ((H : Int) - (M : Int) % 2147483647 + 2147483647) (by omega) (by omega), Int.tmod_eq_emod_of_nonneg (show (0 : Int) ≤ (H : Int) - (M : Int) % 2147483647 + 2147483647 by omega)]
  obtain ⟨R, hR⟩ : ∃ R : Nat, ((H : Int) - (M : Int) % 2147483647 + 2147483647) % 2147483647 = (R : Int) := ⟨(H + 2147483647 - M % 2147483647) % 2147483647, by omega⟩
  have hR2 : (H + 2147483647 - M % 2147483647) % 2147483647 = R := by omega
  rw [hR, hR2, w ((R : Int) * 257) (by omega) (by omega), w ((R : Int) * 257 + (d : Int)) (by omega) (by omega), w ((R : Int) * 257 + (d : Int) + 1) (by omega) (by omega), Int.tmod_eq_emod_of_nonneg (by omega)]
  omega
end Go.Proofs.Ytbgaoehpljnolaa
