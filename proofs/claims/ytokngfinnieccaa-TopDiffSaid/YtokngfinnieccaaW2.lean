/- Deltas part by part, and byte by byte: plain lists, no program. min and max of ints, without parting: arms for the walk. -/
import Derived.Test.YtokngfinnieccaaW1
namespace Go.Proofs.Ytokngfinnieccaa
set_option linter.unusedVariables false
set_option linter.unusedSimpArgs false

/-- how many bytes a part is of -/
def lenP (p : Pt) : Nat := if p.1 = 2 then p.2.2.size else p.2.1.toNat
def fitE (p : Pt) : Int :=
  if p.1 = 1 ∨ p.1 = 3 then (if p.2.1 < 1 ∨ p.2.2.size ≠ 0 then 3 else if 500 < p.2.1 then 2 else 0)
  else if p.1 = 2 then (if p.2.1 ≠ 0 ∨ p.2.2.size = 0 then 3 else if 500 < p.2.2.size then 2 else 0) else 3
def szI : List Pt → Int
  | [] => 0
  | p :: r => (if p.1 = 1 ∨ p.1 = 3 then p.2.1 else 0) + szI r
def szO : List Pt → Int
  | [] => 0
  | p :: r => (if p.1 = 1 then p.2.1 else if p.1 = 3 then 0 else (p.2.2.size : Int)) + szO r
def chkL : Int → List Pt → Int
  | _, [] => 0
  | last, p :: r => if p.1 = last ∨ (last = 3 ∧ p.1 = 2) then 3 else if fitE p ≠ 0 then fitE p else chkL p.1 r
/-- what Check says -/
def chk (d : List Pt) : Int := if 1600 < d.length then 2 else if chkL 0 d ≠ 0 then chkL 0 d else if 500 < max (szI d) (szO d) then 2 else 0

def Shape (p : Pt) : Prop := ((p.1 = 1 ∨ p.1 = 3) ∧ 1 ≤ p.2.1 ∧ p.2.2 = emp) ∨ (p.1 = 2 ∧ p.2.1 = 0 ∧ 1 ≤ p.2.2.size)
def Adj : List Pt → Prop
  | p :: q :: r => p.1 ≠ q.1 ∧ ¬ (p.1 = 3 ∧ q.1 = 2) ∧ Adj (q :: r)
  | _ => True
def hk : List Pt → Int
  | [] => 0
  | p :: _ => p.1
theorem emp_of_size {b : ByteArray} (h : b.size = 0) : b = emp := by
  cases b with
  | mk a =>
    have : a = #[] := Array.eq_empty_of_size_eq_zero h
    rw [this]; rfl
theorem fitE_zero (p : Pt) : fitE p = 0 ↔ Shape p ∧ p.2.1 ≤ 500 ∧ p.2.2.size ≤ 500 := by
  have he : emp.size = 0 := rfl
  unfold fitE Shape
  constructor
  · intro h
    split at h
    · split at h
      · omega
      · split at h
        · omega
        · rename_i h1 h2 h3
          have h4 : p.2.2.size = 0 := by omega
          exact ⟨.inl ⟨h1, by omega, emp_of_size h4⟩, by omega, by omega⟩
    · split at h
      · split at h
        · omega
        · split at h
          · omega
          · exact ⟨.inr ⟨by assumption, by omega, by omega⟩, by omega, by omega⟩
      · omega
  · rintro ⟨⟨h1, h2, h3⟩ | ⟨h1, h2, h3⟩, h4, h5⟩
    · rw [if_pos h1, if_neg (by rw [h3]; omega), if_neg (by omega)]
    · rw [if_neg (by omega), if_pos h1, if_neg (by omega), if_neg (by omega)]
theorem chkL_zero : ∀ (d : List Pt) (last : Int), chkL last d = 0 ↔ (hk d ≠ last ∨ d = []) ∧ ¬ (last = 3 ∧ hk d = 2) ∧ Adj d ∧ ∀ p ∈ d, fitE p = 0
  | [], last => by simp [chkL, hk, Adj]
  | p :: r, last => by
    have ih := chkL_zero r p.1
    simp only [chkL, hk]
    by_cases h1 : p.1 = last ∨ (last = 3 ∧ p.1 = 2)
    · rw [if_pos h1]
      constructor
      · intro h; omega
      · rintro ⟨h2, h3, _⟩
        rcases h1 with h1 | h1
        · rcases h2 with h2 | h2
          · exact absurd h1 h2
          · cases h2
        · exact absurd h1 h3
    · rw [if_neg h1]
      by_cases h2 : fitE p = 0
      · rw [if_neg (by omega), ih]
        rcases r with _ | ⟨q, r⟩
        · simp only [hk, Adj, List.mem_cons, List.not_mem_nil, or_false, forall_eq]
          constructor
          · intro _; exact ⟨.inl (fun e => h1 (.inl e)), fun e => h1 (.inr e), trivial, h2⟩
          · intro _; refine ⟨.inr trivial, by omega, trivial, by simp⟩
        · simp only [hk, Adj, List.mem_cons]
          constructor
          · rintro ⟨h3, h4, h5, h6⟩
            refine ⟨.inl (fun e => h1 (.inl e)), fun e => h1 (.inr e), ⟨?_, h4, h5⟩, ?_⟩
            · rcases h3 with h3 | h3
              · exact fun e => h3 e.symm
              · cases h3
            · rintro x (rfl | hx)
              · exact h2
              · exact h6 x hx
          · rintro ⟨_, _, ⟨h3, h4, h5⟩, h6⟩
            exact ⟨.inl (fun e => h3 e.symm), h4, h5, fun x hx => h6 x (.inr hx)⟩
      · rw [if_pos h2]
        constructor
        · intro h; exact absurd h h2
        · rintro ⟨_, _, _, h6⟩; exact absurd (h6 p (by simp)) h2
theorem up_len (p : Pt) (h : Shape p) : (up p).length = lenP p := by
  unfold up lenP
  rcases h with ⟨h1 | h1, h2, h3⟩ | ⟨h1, h2, h3⟩
  · simp [h1]
  · simp [h1]
  · simp [h1]
theorem nI_up (p : Pt) (h : Shape p) : (nI (up p) : Int) = if p.1 = 1 ∨ p.1 = 3 then p.2.1 else 0 := by
  have hk (n : Nat) : nI (List.replicate n none) = n := by induction n <;> simp_all [List.replicate_succ, nI]
  have hc (n : Nat) : nI (List.replicate n (some none)) = n := by induction n <;> simp_all [List.replicate_succ, nI]
  have hp (l : List UInt8) : nI (l.map (fun b => some (some b))) = 0 := by induction l <;> simp_all [nI]
  unfold up
  rcases h with ⟨h1 | h1, h2, h3⟩ | ⟨h1, h2, h3⟩
  · simp [h1, hk]; omega
  · simp [h1, hc]; omega
  · simp [h1, hp]
theorem nO_up (p : Pt) (h : Shape p) : (nO (up p) : Int) = if p.1 = 1 then p.2.1 else if p.1 = 3 then 0 else (p.2.2.size : Int) := by
  have hk (n : Nat) : nO (List.replicate n none) = n := by induction n <;> simp_all [List.replicate_succ, nO]
  have hc (n : Nat) : nO (List.replicate n (some none)) = 0 := by induction n <;> simp_all [List.replicate_succ, nO]
  have hp (l : List UInt8) : nO (l.map (fun b => some (some b))) = l.length := by induction l <;> simp_all [nO]
  unfold up
  rcases h with ⟨h1 | h1, h2, h3⟩ | ⟨h1, h2, h3⟩
  · simp [h1, hk]; omega
  · simp [h1, hc]
  · simp [h1, hp]
theorem units_cons (p : Pt) (d : List Pt) : units (p :: d) = up p ++ units d := by simp [units]
theorem nI_units : ∀ (d : List Pt), (∀ p ∈ d, Shape p) → (nI (units d) : Int) = szI d
  | [], _ => rfl
  | p :: d, h => by
    rw [units_cons, nI_append]
    have := nI_up p (h p (by simp))
    have := nI_units d fun q hq => h q (by simp [hq])
    simp only [szI]
    omega
theorem nO_units : ∀ (d : List Pt), (∀ p ∈ d, Shape p) → (nO (units d) : Int) = szO d
  | [], _ => rfl
  | p :: d, h => by
    rw [units_cons, nO_append]
    have := nO_up p (h p (by simp))
    have := nO_units d fun q hq => h q (by simp [hq])
    simp only [szO]
    omega

/-- bytes of one sort, one part -/
def one (u : U) : Pt := match u with
  | none => (1, 1, emp)
  | some none => (3, 1, emp)
  | some (some b) => (2, 0, ⟨#[b]⟩)
def addU (u : U) (l : List Pt) : List Pt := match u, l with
  | none, p :: r => if p.1 = 1 then (1, p.2.1 + 1, emp) :: r else one u :: p :: r
  | some none, p :: r => if p.1 = 3 then (3, p.2.1 + 1, emp) :: r else one u :: p :: r
  | some (some b), p :: r => if p.1 = 2 then (2, 0, ⟨(b :: p.2.2.data.toList).toArray⟩) :: r else one u :: p :: r
  | u, [] => [one u]
def grp : List U → List Pt
  | [] => []
  | u :: us => addU u (grp us)
def kU (u : U) : Int := (one u).1
theorem hk_addU (u : U) (l : List Pt) : hk (addU u l) = kU u := by
  rcases u with _ | _ | b <;> rcases l with _ | ⟨p, r⟩
  all_goals simp only [addU]
  all_goals (try split)
  all_goals rfl
theorem hk_grp (u : U) (us : List U) : hk (grp (u :: us)) = kU u := hk_addU _ _
theorem addU_ne (u : U) (l : List Pt) : addU u l ≠ [] := by
  intro h
  have := hk_addU u l
  rw [h] at this
  rcases u with _ | _ | b <;> simp [hk, kU, one] at this
theorem grp_keeps (n : Nat) (us : List U) (h : hk (grp us) ≠ 1) : grp (List.replicate (n + 1) none ++ us) = (1, (n : Int) + 1, emp) :: grp us := by
  induction n with
  | zero =>
    show addU none (grp us) = _
    rcases hg : grp us with _ | ⟨p, r⟩
    · rfl
    · rw [hg] at h
      simp only [addU, one, hk] at h ⊢
      rw [if_neg h]; rfl
  | succ n ih =>
    rw [List.replicate_succ, List.cons_append, grp, ih]
    simp [addU]
theorem grp_cuts (n : Nat) (us : List U) (h : hk (grp us) ≠ 3) : grp (List.replicate (n + 1) (some none) ++ us) = (3, (n : Int) + 1, emp) :: grp us := by
  induction n with
  | zero =>
    show addU (some none) (grp us) = _
    rcases hg : grp us with _ | ⟨p, r⟩
    · rfl
    · rw [hg] at h
      simp only [addU, one, hk] at h ⊢
      rw [if_neg h]; rfl
  | succ n ih =>
    rw [List.replicate_succ, List.cons_append, grp, ih]
    simp [addU]
theorem grp_puts (x : UInt8) (p : List UInt8) (us : List U) (h : hk (grp us) ≠ 2) : grp ((x :: p).map (fun b => some (some b)) ++ us) = (2, 0, ⟨(x :: p).toArray⟩) :: grp us := by
  induction p generalizing x with
  | nil =>
    show addU (some (some x)) (grp us) = _
    rcases hg : grp us with _ | ⟨p, r⟩
    · rfl
    · rw [hg] at h
      simp only [addU, one, hk] at h ⊢
      rw [if_neg h]
  | cons y p ih =>
    have := ih y
    simp only [List.map_cons, List.cons_append, grp] at this ⊢
    rw [this]
    simp [addU]
/-- single bytes' parts, as the program makes them -/
def Fine (l : List Pt) : Prop := ∀ p ∈ l, Shape p
theorem shape_one (u : U) : Shape (one u) := by
  rcases u with _ | _ | b
  · exact .inl ⟨.inl rfl, Int.le_refl _, rfl⟩
  · exact .inl ⟨.inr rfl, Int.le_refl _, rfl⟩
  · exact .inr ⟨rfl, rfl, Nat.le_refl _⟩
theorem fine_addU (u : U) (l : List Pt) (h : Fine l) : Fine (addU u l) := by
  have h1 := shape_one u
  intro q hq
  rcases l with _ | ⟨p, r⟩
  · rcases u with _ | _ | b <;> (simp only [addU, List.mem_singleton] at hq; rw [hq]; exact h1)
  · have hp := h p (by simp)
    have hr : ∀ q ∈ r, Shape q := fun q hq => h q (by simp [hq])
    rcases u with _ | _ | b
    all_goals
      simp only [addU] at hq
      split at hq
      · rename_i hk
        simp only [List.mem_cons] at hq
        rcases hq with rfl | hq
        · rcases hp with ⟨h2, h3, h4⟩ | ⟨h2, h3, h4⟩
          · first | exact .inl ⟨.inl rfl, by simp only; omega, rfl⟩ | exact .inl ⟨.inr rfl, by simp only; omega, rfl⟩ | omega
          · first | (exfalso; omega) | exact .inr ⟨rfl, rfl, by show 1 ≤ (b :: p.2.2.data.toList).toArray.size; rw [List.size_toArray, List.length_cons]; omega⟩
        · exact hr q hq
      · simp only [List.mem_cons] at hq
        rcases hq with rfl | rfl | hq
        · exact h1
        · exact hp
        · exact hr q hq
theorem fine_grp : ∀ us : List U, Fine (grp us)
  | [] => by intro p hp; simp [grp] at hp
  | u :: us => fine_addU u _ (fine_grp us)
theorem units_addU (u : U) (l : List Pt) (h : Fine l) : units (addU u l) = u :: units l := by
  rcases l with _ | ⟨p, r⟩
  · rcases u with _ | _ | b <;> simp [addU, one, units, up]
  · have hp := h p (by simp)
    obtain ⟨k, n, t⟩ := p
    rcases u with _ | _ | b
    · simp only [addU]
      split
      · rename_i hk
        subst hk
        simp only [Shape] at hp
        have e : (n + 1).toNat = n.toNat + 1 := by omega
        rw [units_cons, units_cons]
        simp [up, e, List.replicate_succ]
      · rw [units_cons]; simp [up, one]
    · simp only [addU]
      split
      · rename_i hk
        subst hk
        simp only [Shape] at hp
        have e : (n + 1).toNat = n.toNat + 1 := by omega
        rw [units_cons, units_cons]
        simp [up, e, List.replicate_succ]
      · rw [units_cons]; simp [up, one]
    · simp only [addU]
      split
      · rename_i hk
        subst hk
        rw [units_cons, units_cons]
        simp [up]
      · rw [units_cons]; simp [up, one]
theorem units_grp : ∀ us : List U, units (grp us) = us
  | [] => rfl
  | u :: us => by rw [grp, units_addU u _ (fine_grp us), units_grp us]
theorem grp_inj {a b : List U} (h : grp a = grp b) : a = b := by rw [← units_grp a, h, units_grp]

/-- canonical: what is put ahead of what is cut -/
def Cn : List U → Prop
  | some none :: some (some b) :: _ => False
  | _ :: us => Cn us
  | [] => True
theorem cn_insC : ∀ us : List U, Cn us → Cn (insC us)
  | [], _ => trivial
  | none :: us, h => h
  | some none :: us, h => h
  | some (some b) :: us, h => by
    have ih := cn_insC us h
    simp only [insC, Cn]
    exact ih
theorem cn_cz : ∀ us : List U, Cn (cz us)
  | [] => trivial
  | none :: us => cn_cz us
  | some none :: us => cn_insC _ (cn_cz us)
  | some (some b) :: us => cn_cz us
theorem adj_addU (u : U) (us : List U) (hc : Cn (u :: us)) (ha : Adj (grp us)) : Adj (addU u (grp us)) := by
  rcases us with _ | ⟨v, us⟩
  · rcases u with _ | _ | b <;> exact trivial
  · have hv := hk_grp v us
    rcases hg : grp (v :: us) with _ | ⟨p, r⟩
    · rcases u with _ | _ | b <;> exact trivial
    · rw [hg] at ha hv
      simp only [hk] at hv
      have tail : ∀ q : Pt, q.1 = p.1 → Adj (q :: r) := by
        intro q hq
        rcases r with _ | ⟨z, r⟩
        · trivial
        · simp only [Adj] at ha ⊢
          rw [hq]; exact ha
      rcases u with _ | _ | b
      · simp only [addU]
        split
        · exact tail _ (by simp only; omega)
        · exact ⟨by simp only [one]; omega, by simp [one], ha⟩
      · simp only [addU]
        split
        · exact tail _ (by simp only; omega)
        · refine ⟨by simp only [one]; omega, ?_, ha⟩
          rcases v with _ | _ | y
          · simp [kU, one] at hv; omega
          · simp [kU, one] at hv; omega
          · exact hc.elim
      · simp only [addU]
        split
        · exact tail _ (by simp only; omega)
        · exact ⟨by simp only [one]; omega, by simp [one], ha⟩
theorem cn_tail {u : U} {us : List U} (h : Cn (u :: us)) : Cn us := by
  rcases u with _ | _ | b
  · exact h
  · rcases us with _ | ⟨_ | _ | y, us⟩
    · trivial
    · exact h
    · exact h
    · exact h.elim
  · exact h
theorem adj_grp : ∀ us : List U, Cn us → Adj (grp us)
  | [], _ => trivial
  | u :: us, h => adj_addU u us h (adj_grp us (cn_tail h))
/-- all that is kept, on top of what is made: the last part grows, or one more stands behind it -/
def bump (n : Int) : List Pt → List Pt
  | [] => [(1, n, emp)]
  | [p] => if p.1 = 1 then [(1, p.2.1 + n, emp)] else [p, (1, n, emp)]
  | p :: q :: r => p :: bump n (q :: r)
theorem bump_addU (n : Int) (u : U) (l : List Pt) (h : l ≠ []) : bump n (addU u l) = addU u (bump n l) := by
  rcases l with _ | ⟨p, _ | ⟨q, r⟩⟩
  · exact absurd rfl h
  · obtain ⟨k, m, t⟩ := p
    rcases u with _ | _ | b
    · by_cases hk : k = 1
      · subst hk; simp [addU, bump, one]; omega
      · simp [addU, bump, one, hk]
    · by_cases hk : k = 1
      · subst hk; simp [addU, bump, one]
      · by_cases h3 : k = 3
        · subst h3; simp [addU, bump, one]
        · simp [addU, bump, one, hk, h3]
    · by_cases hk : k = 1
      · subst hk; simp [addU, bump, one]
      · by_cases h3 : k = 2
        · subst h3; simp [addU, bump, one]
        · simp [addU, bump, one, hk, h3]
  · rcases u with _ | _ | b
    all_goals
      simp only [addU, bump]
      split
      · simp only [bump]
      · simp only [bump]
theorem grp_bump (us : List U) (n : Nat) : grp (us ++ List.replicate (n + 1) none) = bump ((n : Int) + 1) (grp us) := by
  induction us with
  | nil =>
    have := grp_keeps n [] (by simp [grp, hk])
    simpa [grp, bump] using this
  | cons u us ih =>
    rw [List.cons_append, grp, ih]
    rcases us with _ | ⟨v, us⟩
    · rcases u with _ | _ | b
      · simp [grp, addU, bump, one]; omega
      · simp [grp, addU, bump, one]
      · simp [grp, addU, bump, one]
    · exact (bump_addU _ u _ (addU_ne v (grp us))).symm
theorem grp_app (a b : List U) (h : a = [] ∨ b = [] ∨ ∃ a' u, a = a' ++ [u] ∧ hk (grp b) ≠ kU u) : grp (a ++ b) = grp a ++ grp b := by
  rcases h with rfl | rfl | ⟨a', u, rfl, h⟩
  · rfl
  · simp [grp]
  · induction a' with
    | nil =>
      show addU u (grp b) = addU u (grp []) ++ grp b
      rcases hg : grp b with _ | ⟨p, r⟩
      · simp [grp]
      · rw [hg] at h
        rcases u with _ | _ | x
        all_goals
          simp only [addU, hk, kU, one, grp] at h ⊢
          rw [if_neg h]; rfl
    | cons v a' ih =>
      simp only [List.cons_append, grp] at ih ⊢
      rw [ih]
      rcases hg : grp (a' ++ [u]) with _ | ⟨p, r⟩
      · have := grp_inj (a := a' ++ [u]) (b := []) hg
        simp at this
      · rcases v with _ | _ | x
        all_goals
          simp only [addU, List.cons_append]
          split <;> rfl

/-- what is put, and what is cut, behind all that is made -/
def pend (p : ByteArray) (c : Int) : List Pt := (if p.size = 0 then [] else [(2, 0, p)]) ++ (if 0 < c then [(3, c, emp)] else [])
def pu (p : ByteArray) : List U := p.data.toList.map (fun b => some (some b))
def cu (c : Int) : List U := List.replicate c.toNat (some none)
def ku (c : Int) : List U := List.replicate c.toNat none
/-- what a Maker holds: us is what it was told -/
def MRep (us : List U) (o : List Pt) (p : ByteArray) (c : Int) : Prop :=
  ∃ w, o = grp w ∧ (w = [] ∨ ∃ w', w = w' ++ [none]) ∧ cz us = w ++ (pu p ++ cu c) ∧ 0 ≤ c
theorem pend_grp (p : ByteArray) (c : Int) : grp (pu p ++ cu c) = pend p c := by
  have hc : grp (cu c) = if 0 < c then [(3, c, emp)] else [] := by
    unfold cu
    by_cases h : 0 < c
    · rw [if_pos h]
      have := grp_cuts (c.toNat - 1) [] (by simp [grp, hk])
      rw [show c.toNat - 1 + 1 = c.toNat by omega, List.append_nil] at this
      rw [this, show ((c.toNat - 1 : Nat) : Int) + 1 = c by omega]
      rfl
    · rw [if_neg h, show c.toNat = 0 by omega]; rfl
  unfold pend
  rw [← hc]
  by_cases h : p.size = 0
  · rw [if_pos h, emp_of_size h]; rfl
  · rw [if_neg h]
    have hp : p.data.toList ≠ [] := by
      intro e
      have : p.data.toList.length = 0 := by rw [e]; rfl
      simp only [Array.length_toList] at this
      exact h this
    obtain ⟨x, l, hl⟩ := List.exists_cons_of_ne_nil hp
    unfold pu
    rw [hl, grp_puts x l _ (by rw [hc]; split <;> simp [hk]), ← hl]
    rfl
theorem kU_pend (p : ByteArray) (c : Int) : hk (grp (pu p ++ cu c)) ≠ kU none := by
  rw [pend_grp]
  unfold pend
  (repeat' split) <;> simp [hk, kU, one]
theorem MRep.flush {us : List U} {o : List Pt} {p : ByteArray} {c : Int} (h : MRep us o p c) : o ++ pend p c = grp (cz us) := by
  obtain ⟨w, rfl, hw, he, _⟩ := h
  rw [he, grp_app, pend_grp]
  rcases hw with rfl | ⟨w', rfl⟩
  · exact .inl rfl
  · exact .inr (.inr ⟨w', none, rfl, kU_pend p c⟩)
theorem MRep.new : MRep [] [] emp 0 := ⟨[], rfl, .inl rfl, rfl, Int.le_refl _⟩
theorem cz_keeps (us : List U) (n : Nat) : cz (us ++ List.replicate n none) = cz us ++ List.replicate n none := by
  have hr : ∀ n : Nat, cz (List.replicate n none) = List.replicate n none := by
    intro n; induction n with
    | zero => rfl
    | succ n ih => rw [List.replicate_succ]; simp only [cz]; rw [ih]
  rcases n with _ | n
  · simp
  · rw [List.replicate_succ, cz_keep, hr]
theorem MRep.keep {us : List U} {o : List Pt} {p : ByteArray} {c n : Int} (h : MRep us o p c) (hn : 0 < n) : MRep (us ++ ku n) (bump n (o ++ pend p c)) emp 0 := by
  have e : n.toNat = (n.toNat - 1) + 1 := by omega
  refine ⟨cz us ++ ku n, ?_, .inr ⟨cz us ++ List.replicate (n.toNat - 1) none, ?_⟩, ?_, Int.le_refl _⟩
  · rw [h.flush]
    unfold ku
    rw [e, grp_bump, show ((n.toNat - 1 : Nat) : Int) + 1 = n by omega]
  · unfold ku
    rw [e, List.append_assoc, ← List.replicate_succ']
    rfl
  · unfold ku
    rw [cz_keeps]
    simp [pu, cu, emp]
theorem cz_after_keep (w x : List U) (hw : w = [] ∨ ∃ w', w = w' ++ [none]) : cz (w ++ x) = cz w ++ cz x := by
  rcases hw with rfl | ⟨w', rfl⟩
  · rfl
  · rw [List.append_assoc, List.singleton_append, cz_keep, cz_keep]
    simp [cz]
theorem cz_cu (c : Int) : cz (cu c) = cu c := by
  unfold cu
  induction c.toNat with
  | zero => rfl
  | succ n ih =>
    rw [List.replicate_succ]; simp only [cz]; rw [ih]
    cases n <;> rfl
theorem cz_pu_cu (p : ByteArray) (c : Int) : cz (pu p ++ cu c) = pu p ++ cu c := by
  unfold pu
  rw [cz_puts _ 0, cz_cu]
theorem MRep.w_cz {us w : List U} {p : ByteArray} {c : Int} (hw : w = [] ∨ ∃ w', w = w' ++ [none]) (he : cz us = w ++ (pu p ++ cu c)) : cz w = w := by
  have h := cz_cz us
  rw [he, cz_after_keep _ _ hw, cz_pu_cu] at h
  exact List.append_cancel_right h
theorem cz_cp (c : Int) (s : ByteArray) : cz (cu c ++ pu s) = pu s ++ cu c := by
  unfold cu
  generalize c.toNat = n
  unfold pu
  induction n with
  | zero => simpa [cz] using cz_puts s.data.toList 0 []
  | succ n ih =>
    rw [List.replicate_succ, List.cons_append]; simp only [cz]; rw [ih, insC_puts]; rfl
theorem ba_app (p s : ByteArray) : pu (p ++ s) = pu p ++ pu s := by
  unfold pu
  rw [ByteArray.data_append, Array.toList_append, List.map_append]
theorem MRep.put {us : List U} {o : List Pt} {p : ByteArray} {c : Int} (s : ByteArray) (h : MRep us o p c) : MRep (us ++ pu s) o (p ++ s) c := by
  obtain ⟨w, ho, hw, he, hc⟩ := h
  refine ⟨w, ho, hw, ?_, hc⟩
  have hcw := MRep.w_cz hw he
  rw [← cz_cz_app, he, List.append_assoc, cz_after_keep _ _ hw, hcw, List.append_assoc]
  congr 1
  rw [show pu p ++ (cu c ++ pu s) = pu p ++ (cu c ++ pu s) from rfl]
  have : cz (pu p ++ (cu c ++ pu s)) = pu p ++ cz (cu c ++ pu s) := cz_puts _ 0 _
  rw [this, cz_cp, ba_app, List.append_assoc]
theorem MRep.cut {us : List U} {o : List Pt} {p : ByteArray} {c n : Int} (h : MRep us o p c) (hn : 0 ≤ n) : MRep (us ++ cu n) o p (c + n) := by
  obtain ⟨w, ho, hw, he, hc⟩ := h
  refine ⟨w, ho, hw, ?_, by omega⟩
  have hcw := MRep.w_cz hw he
  have e : cu c ++ cu n = cu (c + n) := by
    unfold cu
    rw [List.replicate_append_replicate, show c.toNat + n.toNat = (c + n).toNat by omega]
  rw [← cz_cz_app, he, List.append_assoc, cz_after_keep _ _ hw, hcw, List.append_assoc, e, cz_pu_cu]
end Go.Proofs.Ytokngfinnieccaa
namespace Go.Proofs.Ytokngfinnieccaa
open Go.ChangeShapes Go.WideShapes Go.RowKit
set_option linter.unusedVariables false
set_option linter.unusedSimpArgs false
set_option maxRecDepth 100000
section
variable {P : Program}
theorem run_min3 (ts : Array TypeId) (t : TypeId) (w : World) (a b c : Int) : (Builtin.min_ ts t #[.int .i64 a, .int .i64 b, .int .i64 c]).run P w = .ok (.int .i64 (min (min a b) c)) w := by
  have e (x y : Int) : (if y < x then y else x) = min x y := by rw [Int.min_def]; split <;> split <;> omega
  simp only [Builtin.min_, List.foldlM, Builtin.min2, Sem.run_bind, Sem.run_pure, Result.andThen_ok, e, bind_pure, pure_bind]
theorem run_min2 (ts : Array TypeId) (t : TypeId) (w : World) (a b : Int) : (Builtin.min_ ts t #[.int .i64 a, .int .i64 b]).run P w = .ok (.int .i64 (min a b)) w := by
  have e (x y : Int) : (if y < x then y else x) = min x y := by rw [Int.min_def]; split <;> split <;> omega
  simp only [Builtin.min_, List.foldlM, Builtin.min2, Sem.run_bind, Sem.run_pure, Result.andThen_ok, e, bind_pure]
theorem run_max2 (ts : Array TypeId) (t : TypeId) (w : World) (a b : Int) : (Builtin.max_ ts t #[.int .i64 a, .int .i64 b]).run P w = .ok (.int .i64 (max a b)) w := by
  have e (x y : Int) : (if x < y then y else x) = max x y := by rw [Int.max_def]; split <;> split <;> omega
  simp only [Builtin.max_, List.foldlM, Builtin.max2, Sem.run_bind, Sem.run_pure, Result.andThen_ok, e, bind_pure]
theorem wpList_min2 {ops : Array Oper} {rest : List Oper} {o : Oper} {a : Act} {Q : Exit → Act → World → Prop} {w : World} (hgd : o.guard = none) (x y : Operand) (ts : Array TypeId)
    (ho : o.op = .call { callee := .builtin .min, args := #[x, y], argTypes := ts }) (A B N : Int) (hx : a.eval x = .int .i64 A) (hy : a.eval y = .int .i64 B) (hN : min A B = N)
    (h : wpList P ops Q rest (a.put o.dst (.int .i64 N)) w) : wpList P ops Q (o :: rest) a w :=
  wpList_plain hgd fun _ hK => by
    unfold Oper.wp execOp
    simp only [ho, resolve, invoke, builtin, Sem.run_bind, Sem.run_pure, Result.andThen_ok, List.map_toArray, List.map_cons, List.map_nil, hx, hy, run_min2, hN]
    exact hK _ _ h
theorem wpList_max2 {ops : Array Oper} {rest : List Oper} {o : Oper} {a : Act} {Q : Exit → Act → World → Prop} {w : World} (hgd : o.guard = none) (x y : Operand) (ts : Array TypeId)
    (ho : o.op = .call { callee := .builtin .max, args := #[x, y], argTypes := ts }) (A B N : Int) (hx : a.eval x = .int .i64 A) (hy : a.eval y = .int .i64 B) (hN : max A B = N)
    (h : wpList P ops Q rest (a.put o.dst (.int .i64 N)) w) : wpList P ops Q (o :: rest) a w :=
  wpList_plain hgd fun _ hK => by
    unfold Oper.wp execOp
    simp only [ho, resolve, invoke, builtin, Sem.run_bind, Sem.run_pure, Result.andThen_ok, List.map_toArray, List.map_cons, List.map_nil, hx, hy, run_max2, hN]
    exact hK _ _ h
end
end Go.Proofs.Ytokngfinnieccaa
