/- A delta gone through, and two of them: runs of units; plain lists, no program. -/
import Derived.Test.YtfncpcmaplhojaaParts
namespace Go.Proofs.Ytfncpcmaplhojaa
set_option linter.unusedVariables false
set_option linter.unusedSimpArgs false

/-- what is left of a delta of whose first part 'used' have been taken -/
def rem (l : List Pt) (used : Nat) : List U := (units l).drop used
def adv : List Pt → Nat → Nat → List Pt × Nat
  | p :: r, used, n => if used + n = lenP p then (r, 0) else (p :: r, used + n)
  | [], used, _ => ([], used)
/-- how a walker stands -/
def WOk (l : List Pt) (used : Nat) : Prop := Fine l ∧ (l = [] → used = 0) ∧ ∀ p r, l = p :: r → used < lenP p
theorem rem_nil : rem [] 0 = [] := rfl
theorem rem_zero (l : List Pt) : rem l 0 = units l := rfl
theorem rem_cons {p : Pt} {r : List Pt} {used : Nat} (h : Shape p) (hu : used ≤ lenP p) : rem (p :: r) used = (up p).drop used ++ units r := by
  unfold rem
  rw [units_cons, List.drop_append_of_le_length (by rw [up_len p h]; exact hu)]
theorem rem_adv {p : Pt} {r : List Pt} {used n : Nat} (h : Shape p) (hu : used + n ≤ lenP p) : rem (adv (p :: r) used n).1 (adv (p :: r) used n).2 = (rem (p :: r) used).drop n := by
  simp only [adv]
  split
  · rename_i e
    rw [rem_cons h (by omega), rem_zero, List.drop_append, List.drop_eq_nil_of_le (by rw [List.length_drop, up_len p h]; omega)]
    rw [List.length_drop, up_len p h, show n - (lenP p - used) = 0 by omega]
    simp
  · unfold rem
    rw [List.drop_drop]
theorem wok_adv {p : Pt} {r : List Pt} {used n : Nat} (h : WOk (p :: r) used) (hu : used + n ≤ lenP p) : WOk (adv (p :: r) used n).1 (adv (p :: r) used n).2 := by
  obtain ⟨hf, _, h2⟩ := h
  simp only [adv]
  split
  · refine ⟨fun q hq => hf q (by simp [hq]), fun _ => rfl, fun q s e => ?_⟩
    have e' : r = q :: s := e
    have hs := hf q (by simp [e'])
    show 0 < lenP q
    unfold lenP
    rcases hs with ⟨h1, h2, h3⟩ | ⟨h1, h2, h3⟩
    · rw [if_neg (by omega)]; omega
    · rw [if_pos h1]; omega
  · rename_i hne
    refine ⟨hf, by simp, fun q s e => ?_⟩
    have e' : p = q := by injection e
    subst e'
    have := h2 p r rfl
    show used + n < lenP p
    omega
theorem rem_ne {l : List Pt} {used : Nat} (h : WOk l used) (hl : l ≠ []) : rem l used ≠ [] := by
  rcases l with _ | ⟨p, r⟩
  · exact absurd rfl hl
  · intro e
    have h1 := h.2.2 p r rfl
    have h2 := congrArg List.length e
    rw [rem_cons (h.1 p (by simp)) (by omega), List.length_append, List.length_drop, up_len p (h.1 p (by simp))] at h2
    simp at h2
    omega
theorem rem_keep {r : List Pt} {N : Int} {t : ByteArray} {used n : Nat} (h : Shape (1, N, t)) (hu : used + n ≤ N.toNat) :
    rem ((1, N, t) :: r) used = List.replicate n none ++ rem (adv ((1, N, t) :: r) used n).1 (adv ((1, N, t) :: r) used n).2 := by
  have hl : lenP ((1, N, t) : Pt) = N.toNat := by simp [lenP]
  rw [rem_adv h (by rw [hl]; exact hu), rem_cons h (by rw [hl]; omega)]
  simp only [up, if_true, List.drop_replicate]
  rw [show N.toNat - used = n + (N.toNat - used - n) by omega, ← List.replicate_append_replicate, List.append_assoc, List.drop_left' (by simp)]
theorem rem_cut {r : List Pt} {N : Int} {t : ByteArray} {used n : Nat} (h : Shape (3, N, t)) (hu : used + n ≤ N.toNat) :
    rem ((3, N, t) :: r) used = List.replicate n (some none) ++ rem (adv ((3, N, t) :: r) used n).1 (adv ((3, N, t) :: r) used n).2 := by
  have hl : lenP ((3, N, t) : Pt) = N.toNat := by simp [lenP]
  rw [rem_adv h (by rw [hl]; exact hu), rem_cons h (by rw [hl]; omega)]
  have e : up ((3, N, t) : Pt) = List.replicate N.toNat (some none) := rfl
  rw [e, List.drop_replicate]
  rw [show N.toNat - used = n + (N.toNat - used - n) by omega, ← List.replicate_append_replicate, List.append_assoc, List.drop_left' (by simp)]
theorem pu_extract (t : ByteArray) (a b : Nat) : pu (t.extract a b) = ((pu t).take b).drop a := by
  unfold pu
  have e : (t.extract a b).data.toList = (t.data.toList.take b).drop a := by
    rw [ByteArray.data_extract, Array.toList_extract, List.extract_eq_take_drop, List.drop_take]
  rw [e, List.map_drop, List.map_take]
theorem rem_put {r : List Pt} {N : Int} {t : ByteArray} {used n : Nat} (h : Shape (2, N, t)) (hu : used + n ≤ t.size) :
    rem ((2, N, t) :: r) used = pu (t.extract used (used + n)) ++ rem (adv ((2, N, t) :: r) used n).1 (adv ((2, N, t) :: r) used n).2 := by
  have hl : lenP ((2, N, t) : Pt) = t.size := by simp [lenP]
  have hp : (pu t).length = t.size := by simp [pu]
  rw [rem_adv h (by rw [hl]; exact hu), rem_cons h (by rw [hl]; omega)]
  have e : up ((2, N, t) : Pt) = pu t := rfl
  rw [e, pu_extract]
  have e2 : (pu t).drop used = ((pu t).take (used + n)).drop used ++ (pu t).drop (used + n) := by
    conv => lhs; rw [← List.take_append_drop (used + n) (pu t)]
    rw [List.drop_append_of_le_length (by rw [List.length_take]; omega)]
  rw [e2, List.append_assoc, List.drop_left' (by rw [List.length_drop, List.length_take]; omega)]

theorem cmp_cuts (n : Nat) (xs ys : List U) : cmp (List.replicate n (some none) ++ xs) ys = List.replicate n (some none) ++ cmp xs ys := by
  induction n with
  | zero => rfl
  | succ n ih => rw [List.replicate_succ]; simp only [List.cons_append, cmp]; rw [ih]
theorem cmp_puts (s : List UInt8) (xs ys : List U) (h : ∀ r, xs ≠ some none :: r) : cmp xs (s.map (fun b => some (some b)) ++ ys) = s.map (fun b => some (some b)) ++ cmp xs ys := by
  induction s with
  | nil => rfl
  | cons b s ih => simp only [List.map_cons, List.cons_append]; rw [cmp_put _ _ _ h, ih]
theorem cmp_kk (n : Nat) (xs ys : List U) : cmp (List.replicate n none ++ xs) (List.replicate n none ++ ys) = List.replicate n none ++ cmp xs ys := by
  induction n with
  | zero => rfl
  | succ n ih => rw [List.replicate_succ]; simp only [List.cons_append, cmp, lead, rst, List.nil_append]; rw [ih]
theorem cmp_kc (n : Nat) (xs ys : List U) : cmp (List.replicate n none ++ xs) (List.replicate n (some none) ++ ys) = List.replicate n (some none) ++ cmp xs ys := by
  induction n with
  | zero => rfl
  | succ n ih => rw [List.replicate_succ, List.replicate_succ]; simp only [List.cons_append, cmp, lead, rst, List.nil_append]; rw [ih]
theorem cmp_pk (s : List UInt8) (xs ys : List U) : cmp (s.map (fun b => some (some b)) ++ xs) (List.replicate s.length none ++ ys) = s.map (fun b => some (some b)) ++ cmp xs ys := by
  induction s with
  | nil => rfl
  | cons b s ih => rw [List.length_cons, List.replicate_succ]; simp only [List.map_cons, List.cons_append, cmp, lead, rst, List.nil_append]; rw [ih]
theorem cmp_pc (s : List UInt8) (xs ys : List U) : cmp (s.map (fun b => some (some b)) ++ xs) (List.replicate s.length (some none) ++ ys) = cmp xs ys := by
  induction s with
  | nil => rfl
  | cons b s ih => rw [List.length_cons, List.replicate_succ]; simp only [List.map_cons, List.cons_append, cmp, lead, rst, List.nil_append]; rw [ih]
theorem mt_xputs (s : List UInt8) (xs ys : List U) : mt (s.map (fun b => some (some b)) ++ xs) ys = (s.map (fun b => some (some b)) ++ (mt xs ys).1, List.replicate s.length none ++ (mt xs ys).2) := by
  induction s with
  | nil => rfl
  | cons b s ih => simp only [List.map_cons, List.cons_append, mt, List.length_cons, List.replicate_succ]; rw [ih]
theorem mt_yputs (s : List UInt8) (xs ys : List U) (h : ∀ c r, xs ≠ some (some c) :: r) : mt xs (s.map (fun b => some (some b)) ++ ys) = (List.replicate s.length none ++ (mt xs ys).1, s.map (fun b => some (some b)) ++ (mt xs ys).2) := by
  induction s with
  | nil => rfl
  | cons b s ih => simp only [List.map_cons, List.cons_append, List.length_cons, List.replicate_succ]; rw [mt_put _ _ _ h, ih]
theorem mt_kk (n : Nat) (xs ys : List U) : mt (List.replicate n none ++ xs) (List.replicate n none ++ ys) = (List.replicate n none ++ (mt xs ys).1, List.replicate n none ++ (mt xs ys).2) := by
  induction n with
  | zero => rfl
  | succ n ih => rw [List.replicate_succ]; simp only [List.cons_append, mt, lead, rst, List.nil_append, List.map_nil]; rw [ih]
theorem mt_kc (n : Nat) (xs ys : List U) : mt (List.replicate n none ++ xs) (List.replicate n (some none) ++ ys) = ((mt xs ys).1, List.replicate n (some none) ++ (mt xs ys).2) := by
  induction n with
  | zero => rfl
  | succ n ih => rw [List.replicate_succ, List.replicate_succ]; simp only [List.cons_append, mt, lead, rst, List.nil_append, List.map_nil]; rw [ih]
theorem mt_ck (n : Nat) (xs ys : List U) : mt (List.replicate n (some none) ++ xs) (List.replicate n none ++ ys) = (List.replicate n (some none) ++ (mt xs ys).1, (mt xs ys).2) := by
  induction n with
  | zero => rfl
  | succ n ih => rw [List.replicate_succ, List.replicate_succ]; simp only [List.cons_append, mt, lead, rst, List.nil_append, List.map_nil]; rw [ih]
theorem mt_cc (n : Nat) (xs ys : List U) : mt (List.replicate n (some none) ++ xs) (List.replicate n (some none) ++ ys) = mt xs ys := by
  induction n with
  | zero => rfl
  | succ n ih => rw [List.replicate_succ]; simp only [List.cons_append, mt, lead, rst, List.nil_append, List.map_nil]; rw [ih]
theorem len_sizes : ∀ us : List U, us.length ≤ nI us + nO us
  | [] => Nat.le_refl _
  | none :: us => by have := len_sizes us; simp only [List.length_cons, nI, nO]; omega
  | some none :: us => by have := len_sizes us; simp only [List.length_cons, nI, nO]; omega
  | some (some b) :: us => by have := len_sizes us; simp only [List.length_cons, nI, nO]; omega
end Go.Proofs.Ytfncpcmaplhojaa
