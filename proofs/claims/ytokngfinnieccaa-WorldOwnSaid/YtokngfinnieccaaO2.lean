/- Deltas part by part, and byte by byte: plain lists, no program. min and max of ints, without parting: arms for the walk. Contracts of part.fit, sizes, Check, Sizes. -/
import Derived.Test.YtokngfinnieccaaO1
namespace Go.Proofs.Ytokngfinnieccaa
set_option linter.unusedVariables false
set_option linter.unusedSimpArgs false
set_option maxRecDepth 100000
set_option maxHeartbeats 4000000
def lenP (p : Pt) : Nat := if p.1 = 2 then p.2.2.size else p.2.1.toNat
def fitE (p : Pt) : Int :=
 if p.1 = 1 ∨ p.1 = 3 then (if p.2.1 < 1 ∨ p.2.2.size ≠ 0 then 3 else if 500 < p.2.1 then 2 else 0)
 else if p.1 = 2 then (if p.2.1 ≠ 0 ∨ p.2.2.size = 0 then 3 else if 500 < p.2.2.size then 2 else 0) else 3
def szI : List Pt → Int
 | [] => 0
 | p :: r => (if p.1 = 1 ∨ p.1 = 3 then p.2.1 else 0) + szI r
def szO : List Pt → Int
 | [] => 0
 | p :: r => (if p.1 = 1 then p.2.1 else if p.1 = 3 then 0 else (p.2.2.size : Int)) + szO r
def chkL : Int → List Pt → Int
 | _, [] => 0
 | last, p :: r => if p.1 = last ∨ (last = 3 ∧ p.1 = 2) then 3 else if fitE p ≠ 0 then fitE p else chkL p.1 r
def chk (d : List Pt) : Int := if 1600 < d.length then 2 else if chkL 0 d ≠ 0 then chkL 0 d else if 500 < max (szI d) (szO d) then 2 else 0
def Shape (p : Pt) : Prop := ((p.1 = 1 ∨ p.1 = 3) ∧ 1 ≤ p.2.1 ∧ p.2.2 = emp) ∨ (p.1 = 2 ∧ p.2.1 = 0 ∧ 1 ≤ p.2.2.size)
def Adj : List Pt → Prop
 | p :: q :: r => p.1 ≠ q.1 ∧ ¬ (p.1 = 3 ∧ q.1 = 2) ∧ Adj (q :: r)
 | _ => True
def hk : List Pt → Int
 | [] => 0
 | p :: _ => p.1
theorem emp_of_size {b : ByteArray} (h : b.size = 0) : b = emp := by
 cases b with
 | mk a =>
   have : a = #[] := Array.eq_empty_of_size_eq_zero h
   rw [this]; rfl
theorem fitE_zero (p : Pt) : fitE p = 0 ↔ Shape p ∧ p.2.1 ≤ 500 ∧ p.2.2.size ≤ 500 := by
 have he : emp.size = 0 := rfl
 unfold fitE Shape
 constructor
 · intro h
   split at h
   · split at h
     · omega
     · split at h
       · omega
       · rename_i h1 h2 h3
         have h4 : p.2.2.size = 0 := by omega
         exact ⟨.inl ⟨h1, by omega, emp_of_size h4⟩, by omega, by omega⟩
   · split at h
     · split at h
       · omega
       · split at h
         · omega
         · exact ⟨.inr ⟨by assumption, by omega, by omega⟩, by omega, by omega⟩
     · omega
 · rintro ⟨⟨h1, h2, h3⟩ | ⟨h1, h2, h3⟩, h4, h5⟩
   · rw [if_pos h1, if_neg (by rw [h3]; omega), if_neg (by omega)]
   · rw [if_neg (by omega), if_pos h1, if_neg (by omega), if_neg (by omega)]
theorem fitE_large (p : Pt) (h : Shape p) : fitE p = 0 ∨ fitE p = 2 := by
 have he : emp.size = 0 := rfl
 unfold fitE
 rcases h with ⟨h1, h2, h3⟩ | ⟨h1, h2, h3⟩
 · rw [if_pos h1, if_neg (by rw [h3]; omega)]; split <;> simp
 · rw [if_neg (by omega), if_pos h1, if_neg (by omega)]; split <;> simp
theorem chkL_zero : ∀ (d : List Pt) (last : Int), chkL last d = 0 ↔ (hk d ≠ last ∨ d = []) ∧ ¬ (last = 3 ∧ hk d = 2) ∧ Adj d ∧ ∀ p ∈ d, fitE p = 0
 | [], last => by simp [chkL, hk, Adj]
 | p :: r, last => by
   have ih := chkL_zero r p.1
   simp only [chkL, hk]
   by_cases h1 : p.1 = last ∨ (last = 3 ∧ p.1 = 2)
   · rw [if_pos h1]
     constructor
     · intro h; omega
     · rintro ⟨h2, h3, _⟩
       rcases h1 with h1 | h1
       · rcases h2 with h2 | h2
         · exact absurd h1 h2
         · cases h2
       · exact absurd h1 h3
   · rw [if_neg h1]
     by_cases h2 : fitE p = 0
     · rw [if_neg (by omega), ih]
       rcases r with _ | ⟨q, r⟩
       · simp only [hk, Adj, List.mem_cons, List.not_mem_nil, or_false, forall_eq]
         constructor
         · intro _; exact ⟨.inl (fun e => h1 (.inl e)), fun e => h1 (.inr e), trivial, h2⟩
         · intro _; refine ⟨.inr trivial, by omega, trivial, by simp⟩
       · simp only [hk, Adj, List.mem_cons]
         constructor
         · rintro ⟨h3, h4, h5, h6⟩
           refine ⟨.inl (fun e => h1 (.inl e)), fun e => h1 (.inr e), ⟨?_, h4, h5⟩, ?_⟩
           · rcases h3 with h3 | h3
             · exact fun e => h3 e.symm
             · cases h3
           · rintro x (rfl | hx)
             · exact h2
             · exact h6 x hx
         · rintro ⟨_, _, ⟨h3, h4, h5⟩, h6⟩
           exact ⟨.inl (fun e => h3 e.symm), h4, h5, fun x hx => h6 x (.inr hx)⟩
     · rw [if_pos h2]
       constructor
       · intro h; exact absurd h h2
       · rintro ⟨_, _, _, h6⟩; exact absurd (h6 p (by simp)) h2
theorem up_len (p : Pt) (h : Shape p) : (up p).length = lenP p := by
 unfold up lenP
 rcases h with ⟨h1 | h1, h2, h3⟩ | ⟨h1, h2, h3⟩
 · simp [h1]
 · simp [h1]
 · simp [h1]
theorem nI_up (p : Pt) (h : Shape p) : (nI (up p) : Int) = if p.1 = 1 ∨ p.1 = 3 then p.2.1 else 0 := by
 have hk (n : Nat) : nI (List.replicate n none) = n := by induction n <;> simp_all [List.replicate_succ, nI]
 have hc (n : Nat) : nI (List.replicate n (some none)) = n := by induction n <;> simp_all [List.replicate_succ, nI]
 have hp (l : List UInt8) : nI (l.map (fun b => some (some b))) = 0 := by induction l <;> simp_all [nI]
 unfold up
 rcases h with ⟨h1 | h1, h2, h3⟩ | ⟨h1, h2, h3⟩
 · simp [h1, hk]; omega
 · simp [h1, hc]; omega
 · simp [h1, hp]
theorem nO_up (p : Pt) (h : Shape p) : (nO (up p) : Int) = if p.1 = 1 then p.2.1 else if p.1 = 3 then 0 else (p.2.2.size : Int) := by
 have hk (n : Nat) : nO (List.replicate n none) = n := by induction n <;> simp_all [List.replicate_succ, nO]
 have hc (n : Nat) : nO (List.replicate n (some none)) = 0 := by induction n <;> simp_all [List.replicate_succ, nO]
 have hp (l : List UInt8) : nO (l.map (fun b => some (some b))) = l.length := by induction l <;> simp_all [nO]
 unfold up
 rcases h with ⟨h1 | h1, h2, h3⟩ | ⟨h1, h2, h3⟩
 · simp [h1, hk]; omega
 · simp [h1, hc]
 · simp [h1, hp]
theorem units_cons (p : Pt) (d : List Pt) : units (p :: d) = up p ++ units d := by simp [units]
theorem nI_units : ∀ (d : List Pt), (∀ p ∈ d, Shape p) → (nI (units d) : Int) = szI d
 | [], _ => rfl
 | p :: d, h => by
   rw [units_cons, nI_append]
   have := nI_up p (h p (by simp))
   have := nI_units d fun q hq => h q (by simp [hq])
   simp only [szI]
   omega
theorem nO_units : ∀ (d : List Pt), (∀ p ∈ d, Shape p) → (nO (units d) : Int) = szO d
 | [], _ => rfl
 | p :: d, h => by
   rw [units_cons, nO_append]
   have := nO_up p (h p (by simp))
   have := nO_units d fun q hq => h q (by simp [hq])
   simp only [szO]
   omega
def one (u : U) : Pt := match u with
 | none => (1, 1, emp)
 | some none => (3, 1, emp)
 | some (some b) => (2, 0, ⟨#[b]⟩)
def addU (u : U) (l : List Pt) : List Pt := match u, l with
 | none, p :: r => if p.1 = 1 then (1, p.2.1 + 1, emp) :: r else one u :: p :: r
 | some none, p :: r => if p.1 = 3 then (3, p.2.1 + 1, emp) :: r else one u :: p :: r
 | some (some b), p :: r => if p.1 = 2 then (2, 0, ⟨(b :: p.2.2.data.toList).toArray⟩) :: r else one u :: p :: r
 | u, [] => [one u]
def grp : List U → List Pt
 | [] => []
 | u :: us => addU u (grp us)
def kU (u : U) : Int := (one u).1
theorem hk_addU (u : U) (l : List Pt) : hk (addU u l) = kU u := by
 rcases u with _ | _ | b <;> rcases l with _ | ⟨p, r⟩
 all_goals simp only [addU]
 all_goals (try split)
 all_goals rfl
theorem hk_grp (u : U) (us : List U) : hk (grp (u :: us)) = kU u := hk_addU _ _
theorem addU_ne (u : U) (l : List Pt) : addU u l ≠ [] := by
 intro h
 have := hk_addU u l
 rw [h] at this
 rcases u with _ | _ | b <;> simp [hk, kU, one] at this
theorem grp_keeps (n : Nat) (us : List U) (h : hk (grp us) ≠ 1) : grp (List.replicate (n + 1) none ++ us) = (1, (n : Int) + 1, emp) :: grp us := by
 induction n with
 | zero =>
   show addU none (grp us) = _
   rcases hg : grp us with _ | ⟨p, r⟩
   · rfl
   · rw [hg] at h
     simp only [addU, one, hk] at h ⊢
     rw [if_neg h]; rfl
 | succ n ih =>
   rw [List.replicate_succ, List.cons_append, grp, ih]
   simp [addU]
theorem grp_cuts (n : Nat) (us : List U) (h : hk (grp us) ≠ 3) : grp (List.replicate (n + 1) (some none) ++ us) = (3, (n : Int) + 1, emp) :: grp us := by
 induction n with
 | zero =>
   show addU (some none) (grp us) = _
   rcases hg : grp us with _ | ⟨p, r⟩
   · rfl
   · rw [hg] at h
     simp only [addU, one, hk] at h ⊢
     rw [if_neg h]; rfl
 | succ n ih =>
   rw [List.replicate_succ, List.cons_append, grp, ih]
   simp [addU]
theorem grp_puts (x : UInt8) (p : List UInt8) (us : List U) (h : hk (grp us) ≠ 2) : grp ((x :: p).map (fun b => some (some b)) ++ us) = (2, 0, ⟨(x :: p).toArray⟩) :: grp us := by
 induction p generalizing x with
 | nil =>
   show addU (some (some x)) (grp us) = _
   rcases hg : grp us with _ | ⟨p, r⟩
   · rfl
   · rw [hg] at h
     simp only [addU, one, hk] at h ⊢
     rw [if_neg h]
 | cons y p ih =>
   have := ih y
   simp only [List.map_cons, List.cons_append, grp] at this ⊢
   rw [this]
   simp [addU]
def Fine (l : List Pt) : Prop := ∀ p ∈ l, Shape p
theorem shape_one (u : U) : Shape (one u) := by
 rcases u with _ | _ | b
 · exact .inl ⟨.inl rfl, Int.le_refl _, rfl⟩
 · exact .inl ⟨.inr rfl, Int.le_refl _, rfl⟩
 · exact .inr ⟨rfl, rfl, Nat.le_refl _⟩
theorem fine_addU (u : U) (l : List Pt) (h : Fine l) : Fine (addU u l) := by
 have h1 := shape_one u
 intro q hq
 rcases l with _ | ⟨p, r⟩
 · rcases u with _ | _ | b <;> (simp only [addU, List.mem_singleton] at hq; rw [hq]; exact h1)
 · have hp := h p (by simp)
   have hr : ∀ q ∈ r, Shape q := fun q hq => h q (by simp [hq])
   rcases u with _ | _ | b
   all_goals
    simp only [addU] at hq
    split at hq
    · rename_i hk
      simp only [List.mem_cons] at hq
      rcases hq with rfl | hq
      · rcases hp with ⟨h2, h3, h4⟩ | ⟨h2, h3, h4⟩
        · first | exact .inl ⟨.inl rfl, by simp only; omega, rfl⟩ | exact .inl ⟨.inr rfl, by simp only; omega, rfl⟩ | omega
        · first | (exfalso; omega) | exact .inr ⟨rfl, rfl, by show 1 ≤ (b :: p.2.2.data.toList).toArray.size; rw [List.size_toArray, List.length_cons]; omega⟩
      · exact hr q hq
    · simp only [List.mem_cons] at hq
      rcases hq with rfl | rfl | hq
      · exact h1
      · exact hp
      · exact hr q hq
theorem fine_grp : ∀ us : List U, Fine (grp us)
 | [] => by intro p hp; simp [grp] at hp
 | u :: us => fine_addU u _ (fine_grp us)
theorem units_addU (u : U) (l : List Pt) (h : Fine l) : units (addU u l) = u :: units l := by
 rcases l with _ | ⟨p, r⟩
 · rcases u with _ | _ | b <;> simp [addU, one, units, up]
 · have hp := h p (by simp)
   obtain ⟨k, n, t⟩ := p
   rcases u with _ | _ | b
   · simp only [addU]
     split
     · rename_i hk
       subst hk
       simp only [Shape] at hp
       have e : (n + 1).toNat = n.toNat + 1 := by omega
       rw [units_cons, units_cons]
       simp [up, e, List.replicate_succ]
     · rw [units_cons]; simp [up, one]
   · simp only [addU]
     split
     · rename_i hk
       subst hk
       simp only [Shape] at hp
       have e : (n + 1).toNat = n.toNat + 1 := by omega
       rw [units_cons, units_cons]
       simp [up, e, List.replicate_succ]
     · rw [units_cons]; simp [up, one]
   · simp only [addU]
     split
     · rename_i hk
       subst hk
       rw [units_cons, units_cons]
       simp [up]
     · rw [units_cons]; simp [up, one]
theorem units_grp : ∀ us : List U, units (grp us) = us
 | [] => rfl
 | u :: us => by rw [grp, units_addU u _ (fine_grp us), units_grp us]
theorem grp_inj {a b : List U} (h : grp a = grp b) : a = b := by rw [← units_grp a, h, units_grp]
def Cn : List U → Prop
 | some none :: some (some b) :: _ => False
 | _ :: us => Cn us
 | [] => True
theorem cn_insC : ∀ us : List U, Cn us → Cn (insC us)
 | [], _ => trivial
 | none :: us, h => h
 | some none :: us, h => h
 | some (some b) :: us, h => by
   have ih := cn_insC us h
   simp only [insC, Cn]
   exact ih
theorem cn_cz : ∀ us : List U, Cn (cz us)
 | [] => trivial
 | none :: us => cn_cz us
 | some none :: us => cn_insC _ (cn_cz us)
 | some (some b) :: us => cn_cz us
theorem adj_addU (u : U) (us : List U) (hc : Cn (u :: us)) (ha : Adj (grp us)) : Adj (addU u (grp us)) := by
 rcases us with _ | ⟨v, us⟩
 · rcases u with _ | _ | b <;> exact trivial
 · have hv := hk_grp v us
   rcases hg : grp (v :: us) with _ | ⟨p, r⟩
   · rcases u with _ | _ | b <;> exact trivial
   · rw [hg] at ha hv
     simp only [hk] at hv
     have tail : ∀ q : Pt, q.1 = p.1 → Adj (q :: r) := by
      intro q hq
      rcases r with _ | ⟨z, r⟩
      · trivial
      · simp only [Adj] at ha ⊢
        rw [hq]; exact ha
     rcases u with _ | _ | b
     · simp only [addU]
       split
       · exact tail _ (by simp only; omega)
       · exact ⟨by simp only [one]; omega, by simp [one], ha⟩
     · simp only [addU]
       split
       · exact tail _ (by simp only; omega)
       · refine ⟨by simp only [one]; omega, ?_, ha⟩
         rcases v with _ | _ | y
         · simp [kU, one] at hv; omega
         · simp [kU, one] at hv; omega
         · exact hc.elim
     · simp only [addU]
       split
       · exact tail _ (by simp only; omega)
       · exact ⟨by simp only [one]; omega, by simp [one], ha⟩
theorem cn_tail {u : U} {us : List U} (h : Cn (u :: us)) : Cn us := by
 rcases u with _ | _ | b
 · exact h
 · rcases us with _ | ⟨_ | _ | y, us⟩
   · trivial
   · exact h
   · exact h
   · exact h.elim
 · exact h
theorem adj_grp : ∀ us : List U, Cn us → Adj (grp us)
 | [], _ => trivial
 | u :: us, h => adj_addU u us h (adj_grp us (cn_tail h))
def bump (n : Int) : List Pt → List Pt
 | [] => [(1, n, emp)]
 | [p] => if p.1 = 1 then [(1, p.2.1 + n, emp)] else [p, (1, n, emp)]
 | p :: q :: r => p :: bump n (q :: r)
theorem bump_addU (n : Int) (u : U) (l : List Pt) (h : l ≠ []) : bump n (addU u l) = addU u (bump n l) := by
 rcases l with _ | ⟨p, _ | ⟨q, r⟩⟩
 · exact absurd rfl h
 · obtain ⟨k, m, t⟩ := p
   rcases u with _ | _ | b
   · by_cases hk : k = 1
     · subst hk; simp [addU, bump, one]; omega
     · simp [addU, bump, one, hk]
   · by_cases hk : k = 1
     · subst hk; simp [addU, bump, one]
     · by_cases h3 : k = 3
       · subst h3; simp [addU, bump, one]
       · simp [addU, bump, one, hk, h3]
   · by_cases hk : k = 1
     · subst hk; simp [addU, bump, one]
     · by_cases h3 : k = 2
       · subst h3; simp [addU, bump, one]
       · simp [addU, bump, one, hk, h3]
 · rcases u with _ | _ | b
   all_goals
    simp only [addU, bump]
    split
    · simp only [bump]
    · simp only [bump]
theorem grp_bump (us : List U) (n : Nat) : grp (us ++ List.replicate (n + 1) none) = bump ((n : Int) + 1) (grp us) := by
 induction us with
 | nil =>
   have := grp_keeps n [] (by simp [grp, hk])
   simpa [grp, bump] using this
 | cons u us ih =>
   rw [List.cons_append, grp, ih]
   rcases us with _ | ⟨v, us⟩
   · rcases u with _ | _ | b
     · simp [grp, addU, bump, one]; omega
     · simp [grp, addU, bump, one]
     · simp [grp, addU, bump, one]
   · exact (bump_addU _ u _ (addU_ne v (grp us))).symm
theorem grp_app (a b : List U) (h : a = [] ∨ b = [] ∨ ∃ a' u, a = a' ++ [u] ∧ hk (grp b) ≠ kU u) : grp (a ++ b) = grp a ++ grp b := by
 rcases h with rfl | rfl | ⟨a', u, rfl, h⟩
 · rfl
 · simp [grp]
 · induction a' with
   | nil =>
     show addU u (grp b) = addU u (grp []) ++ grp b
     rcases hg : grp b with _ | ⟨p, r⟩
     · simp [grp]
     · rw [hg] at h
       rcases u with _ | _ | x
       all_goals
        simp only [addU, hk, kU, one, grp] at h ⊢
        rw [if_neg h]; rfl
   | cons v a' ih =>
     simp only [List.cons_append, grp] at ih ⊢
     rw [ih]
     rcases hg : grp (a' ++ [u]) with _ | ⟨p, r⟩
     · have := grp_inj (a := a' ++ [u]) (b := []) hg
       simp at this
     · rcases v with _ | _ | x
       all_goals
        simp only [addU, List.cons_append]
        split <;> rfl
def pend (p : ByteArray) (c : Int) : List Pt := (if p.size = 0 then [] else [(2, 0, p)]) ++ (if 0 < c then [(3, c, emp)] else [])
def pu (p : ByteArray) : List U := p.data.toList.map (fun b => some (some b))
def cu (c : Int) : List U := List.replicate c.toNat (some none)
def ku (c : Int) : List U := List.replicate c.toNat none
def MRep (us : List U) (o : List Pt) (p : ByteArray) (c : Int) : Prop :=
 ∃ w, o = grp w ∧ (w = [] ∨ ∃ w', w = w' ++ [none]) ∧ cz us = w ++ (pu p ++ cu c) ∧ 0 ≤ c
theorem pend_grp (p : ByteArray) (c : Int) : grp (pu p ++ cu c) = pend p c := by
 have hc : grp (cu c) = if 0 < c then [(3, c, emp)] else [] := by
  unfold cu
  by_cases h : 0 < c
  · rw [if_pos h]
    have := grp_cuts (c.toNat - 1) [] (by simp [grp, hk])
    rw [show c.toNat - 1 + 1 = c.toNat by omega, List.append_nil] at this
    rw [this, show ((c.toNat - 1 : Nat) : Int) + 1 = c by omega]
    rfl
  · rw [if_neg h, show c.toNat = 0 by omega]; rfl
 unfold pend
 rw [← hc]
 by_cases h : p.size = 0
 · rw [if_pos h, emp_of_size h]; rfl
 · rw [if_neg h]
   have hp : p.data.toList ≠ [] := by
    intro e
    have : p.data.toList.length = 0 := by rw [e]; rfl
    simp only [Array.length_toList] at this
    exact h this
   obtain ⟨x, l, hl⟩ := List.exists_cons_of_ne_nil hp
   unfold pu
   rw [hl, grp_puts x l _ (by rw [hc]; split <;> simp [hk]), ← hl]
   rfl
theorem kU_pend (p : ByteArray) (c : Int) : hk (grp (pu p ++ cu c)) ≠ kU none := by
 rw [pend_grp]
 unfold pend
 (repeat' split) <;> simp [hk, kU, one]
theorem MRep.flush {us : List U} {o : List Pt} {p : ByteArray} {c : Int} (h : MRep us o p c) : o ++ pend p c = grp (cz us) := by
 obtain ⟨w, rfl, hw, he, _⟩ := h
 rw [he, grp_app, pend_grp]
 rcases hw with rfl | ⟨w', rfl⟩
 · exact .inl rfl
 · exact .inr (.inr ⟨w', none, rfl, kU_pend p c⟩)
theorem MRep.new : MRep [] [] emp 0 := ⟨[], rfl, .inl rfl, rfl, Int.le_refl _⟩
theorem cz_keeps (us : List U) (n : Nat) : cz (us ++ List.replicate n none) = cz us ++ List.replicate n none := by
 have hr : ∀ n : Nat, cz (List.replicate n none) = List.replicate n none := by
  intro n; induction n with
  | zero => rfl
  | succ n ih => rw [List.replicate_succ]; simp only [cz]; rw [ih]
 rcases n with _ | n
 · simp
 · rw [List.replicate_succ, cz_keep, hr]
theorem MRep.keep {us : List U} {o : List Pt} {p : ByteArray} {c n : Int} (h : MRep us o p c) (hn : 0 < n) : MRep (us ++ ku n) (bump n (o ++ pend p c)) emp 0 := by
 have e : n.toNat = (n.toNat - 1) + 1 := by omega
 refine ⟨cz us ++ ku n, ?_, .inr ⟨cz us ++ List.replicate (n.toNat - 1) none, ?_⟩, ?_, Int.le_refl _⟩
 · rw [h.flush]
   unfold ku
   rw [e, grp_bump, show ((n.toNat - 1 : Nat) : Int) + 1 = n by omega]
 · unfold ku
   rw [e, List.append_assoc, ← List.replicate_succ']
   rfl
 · unfold ku
   rw [cz_keeps]
   simp [pu, cu, emp]
theorem cz_after_keep (w x : List U) (hw : w = [] ∨ ∃ w', w = w' ++ [none]) : cz (w ++ x) = cz w ++ cz x := by
 rcases hw with rfl | ⟨w', rfl⟩
 · rfl
 · rw [List.append_assoc, List.singleton_append, cz_keep, cz_keep]
   simp [cz]
theorem cz_cu (c : Int) : cz (cu c) = cu c := by
 unfold cu
 induction c.toNat with
 | zero => rfl
 | succ n ih =>
   rw [List.replicate_succ]; simp only [cz]; rw [ih]
   cases n <;> rfl
theorem cz_pu_cu (p : ByteArray) (c : Int) : cz (pu p ++ cu c) = pu p ++ cu c := by
 unfold pu
 rw [cz_puts _ 0, cz_cu]
theorem MRep.w_cz {us w : List U} {p : ByteArray} {c : Int} (hw : w = [] ∨ ∃ w', w = w' ++ [none]) (he : cz us = w ++ (pu p ++ cu c)) : cz w = w := by
 have h := cz_cz us
 rw [he, cz_after_keep _ _ hw, cz_pu_cu] at h
 exact List.append_cancel_right h
theorem cz_cp (c : Int) (s : ByteArray) : cz (cu c ++ pu s) = pu s ++ cu c := by
 unfold cu
 generalize c.toNat = n
 unfold pu
 induction n with
 | zero => simpa [cz] using cz_puts s.data.toList 0 []
 | succ n ih =>
   rw [List.replicate_succ, List.cons_append]; simp only [cz]; rw [ih, insC_puts]; rfl
theorem ba_app (p s : ByteArray) : pu (p ++ s) = pu p ++ pu s := by
 unfold pu
 rw [ByteArray.data_append, Array.toList_append, List.map_append]
theorem MRep.put {us : List U} {o : List Pt} {p : ByteArray} {c : Int} (s : ByteArray) (h : MRep us o p c) : MRep (us ++ pu s) o (p ++ s) c := by
 obtain ⟨w, ho, hw, he, hc⟩ := h
 refine ⟨w, ho, hw, ?_, hc⟩
 have hcw := MRep.w_cz hw he
 rw [← cz_cz_app, he, List.append_assoc, cz_after_keep _ _ hw, hcw, List.append_assoc]
 congr 1
 rw [show pu p ++ (cu c ++ pu s) = pu p ++ (cu c ++ pu s) from rfl]
 have : cz (pu p ++ (cu c ++ pu s)) = pu p ++ cz (cu c ++ pu s) := cz_puts _ 0 _
 rw [this, cz_cp, ba_app, List.append_assoc]
theorem MRep.cut {us : List U} {o : List Pt} {p : ByteArray} {c n : Int} (h : MRep us o p c) (hn : 0 ≤ n) : MRep (us ++ cu n) o p (c + n) := by
 obtain ⟨w, ho, hw, he, hc⟩ := h
 refine ⟨w, ho, hw, ?_, by omega⟩
 have hcw := MRep.w_cz hw he
 have e : cu c ++ cu n = cu (c + n) := by
  unfold cu
  rw [List.replicate_append_replicate, show c.toNat + n.toNat = (c + n).toNat by omega]
 rw [← cz_cz_app, he, List.append_assoc, cz_after_keep _ _ hw, hcw, List.append_assoc, e, cz_pu_cu]
end Go.Proofs.Ytokngfinnieccaa
namespace Go.Proofs.Ytokngfinnieccaa
open Go.ChangeShapes Go.WideShapes Go.RowKit
set_option linter.unusedVariables false
set_option linter.unusedSimpArgs false
set_option maxRecDepth 100000
set_option maxHeartbeats 4000000
section
variable {P : Program}
theorem run_min3 (ts : Array TypeId) (t : TypeId) (w : World) (a b c : Int) : (Builtin.min_ ts t #[.int .i64 a, .int .i64 b, .int .i64 c]).run P w = .ok (.int .i64 (min (min a b) c)) w := by
 have e (x y : Int) : (if y < x then y else x) = min x y := by rw [Int.min_def]; split <;> split <;> omega
 simp only [Builtin.min_, List.foldlM, Builtin.min2, Sem.run_bind, Sem.run_pure, Result.andThen_ok, e, bind_pure, pure_bind]
theorem run_min2 (ts : Array TypeId) (t : TypeId) (w : World) (a b : Int) : (Builtin.min_ ts t #[.int .i64 a, .int .i64 b]).run P w = .ok (.int .i64 (min a b)) w := by
 have e (x y : Int) : (if y < x then y else x) = min x y := by rw [Int.min_def]; split <;> split <;> omega
 simp only [Builtin.min_, List.foldlM, Builtin.min2, Sem.run_bind, Sem.run_pure, Result.andThen_ok, e, bind_pure]
theorem run_max2 (ts : Array TypeId) (t : TypeId) (w : World) (a b : Int) : (Builtin.max_ ts t #[.int .i64 a, .int .i64 b]).run P w = .ok (.int .i64 (max a b)) w := by
 have e (x y : Int) : (if x < y then y else x) = max x y := by rw [Int.max_def]; split <;> split <;> omega
 simp only [Builtin.max_, List.foldlM, Builtin.max2, Sem.run_bind, Sem.run_pure, Result.andThen_ok, e, bind_pure]
theorem wpList_min2 {ops : Array Oper} {rest : List Oper} {o : Oper} {a : Act} {Q : Exit → Act → World → Prop} {w : World} (hgd : o.guard = none) (x y : Operand) (ts : Array TypeId)
 (ho : o.op = .call { callee := .builtin .min, args := #[x, y], argTypes := ts }) (A B N : Int) (hx : a.eval x = .int .i64 A) (hy : a.eval y = .int .i64 B) (hN : min A B = N)
 (h : wpList P ops Q rest (a.put o.dst (.int .i64 N)) w) : wpList P ops Q (o :: rest) a w :=
 wpList_plain hgd fun _ hK => by
  unfold Oper.wp execOp
  simp only [ho, resolve, invoke, builtin, Sem.run_bind, Sem.run_pure, Result.andThen_ok, List.map_toArray, List.map_cons, List.map_nil, hx, hy, run_min2, hN]
  exact hK _ _ h
theorem wpList_max2 {ops : Array Oper} {rest : List Oper} {o : Oper} {a : Act} {Q : Exit → Act → World → Prop} {w : World} (hgd : o.guard = none) (x y : Operand) (ts : Array TypeId)
 (ho : o.op = .call { callee := .builtin .max, args := #[x, y], argTypes := ts }) (A B N : Int) (hx : a.eval x = .int .i64 A) (hy : a.eval y = .int .i64 B) (hN : max A B = N)
 (h : wpList P ops Q rest (a.put o.dst (.int .i64 N)) w) : wpList P ops Q (o :: rest) a w :=
 wpList_plain hgd fun _ hK => by
  unfold Oper.wp execOp
  simp only [ho, resolve, invoke, builtin, Sem.run_bind, Sem.run_pure, Result.andThen_ok, List.map_toArray, List.map_cons, List.map_nil, hx, hy, run_max2, hN]
  exact hK _ _ h
end
def pcells (p : Pt) : List Value := [.int .i64 p.1, .int .i64 p.2.1, .string p.2.2]
def pval (p : Pt) : Value := .agg #[.int .i64 p.1, .int .i64 p.2.1, .string p.2.2]
def pc (l : List Pt) : List Value := l.flatMap pcells
theorem pc_len (l : List Pt) : (pc l).length = l.length * 3 := by
 unfold pc
 induction l with
 | nil => rfl
 | cons p l ih => rw [List.flatMap_cons, List.length_append, ih]; simp [pcells]; omega
theorem pc_at : ∀ (l : List Pt) (k : Nat) (h : k < l.length), (pc l)[k * 3]? = some (.int .i64 l[k].1) ∧ (pc l)[k * 3 + 1]? = some (.int .i64 l[k].2.1) ∧ (pc l)[k * 3 + 2]? = some (.string l[k].2.2)
 | [], k, h => absurd h (by simp)
 | p :: l, 0, h => ⟨rfl, rfl, rfl⟩
 | p :: l, k + 1, h => by
   have := pc_at l k (by simpa using h)
   have e (j : Nat) : (pc (p :: l))[(k + 1) * 3 + j]? = (pc l)[k * 3 + j]? := by
    unfold pc
    rw [List.flatMap_cons, List.getElem?_append_right (by simp [pcells]; omega)]
    congr 1
    simp [pcells]; omega
   have e0 := e 0
   simp only [Nat.add_zero] at e0
   rw [e0, e 1, e 2]
   exact this
def RdP (w : World) (B : Nat) (A : Option Addr) (n c : Nat) (l : List Pt) : Prop := n = l.length ∧ Rd w B 3 A n c (pc l) ∧ ∀ p ∈ l, p.2.2.size ≤ 140737488351232
section
variable {w w' : World} {B B' n c : Nat} {A : Option Addr} {l : List Pt}
theorem RdP.at_ (h : RdP w B A n c l) (k : Nat) (hk : k < n) :
 ∃ b o, A = some ⟨b, o, none⟩ ∧ b < B ∧ w.cell? ⟨b, o + k * 3, none⟩ = some (.int .i64 (l[k]'(by have := h.1; omega)).1) ∧ w.cell? ⟨b, o + k * 3 + 1, none⟩ = some (.int .i64 (l[k]'(by have := h.1; omega)).2.1) ∧
   w.cell? ⟨b, o + k * 3 + 2, none⟩ = some (.string (l[k]'(by have := h.1; omega)).2.2) := by
 obtain ⟨b, o, e, hb, hc⟩ := h.2.1.2.2.2 (by omega)
 obtain ⟨h1, h2, h3⟩ := pc_at l k (by have := h.1; omega)
 refine ⟨b, o, e, hb, hc _ _ h1, ?_, ?_⟩
 · have := hc _ _ h2; rwa [← Nat.add_assoc] at this
 · have := hc _ _ h3; rwa [← Nat.add_assoc] at this
theorem RdP.below (h : RdP w B A n c l) (hb : Below B w w') : RdP w' B A n c l := ⟨h.1, h.2.1.below hb, h.2.2⟩
theorem RdP.more (h : RdP w B A n c l) (hB : B ≤ B') : RdP w B' A n c l := ⟨h.1, h.2.1.more hB, h.2.2⟩
theorem RdP.alloc (h : RdP w B A n c l) (hB : B ≤ w.heap.size) (o : Obj) : RdP (w.alloc o) B A n c l := ⟨h.1, h.2.1.alloc hB o, h.2.2⟩
theorem RdP.drewN (h : RdP w B A n c l) (k : Nat) : RdP (w.drewN k) B A n c l := ⟨h.1, h.2.1.drewN k, h.2.2⟩
theorem RdP.step (h : RdP w w.heap.size A n c l) (hb : Below w.heap.size w w') : RdP w' w'.heap.size A n c l := (h.below hb).more hb.size
theorem RdP.stepA (h : RdP w w.heap.size A n c l) (o : Obj) : RdP (w.alloc o) (w.alloc o).heap.size A n c l := (h.alloc (Nat.le_refl _) o).more (by simp)
theorem RdP.le (h : RdP w B A n c l) : n ≤ 9223372036854775807 := by have := h.2.1.1; have := h.2.1.2.1; unfold maxLen at this; omega
end
theorem str_cases (t : ByteArray) : t = ⟨#[]⟩ ∨ (t.toList.isEmpty = false ∧ 1 ≤ (t.size : Int)) := by
 rcases Nat.eq_zero_or_pos t.size with h | h
 · exact .inl (emp_of_size h)
 · refine .inr ⟨?_, by omega⟩
   rw [ByteArray.toList_eq]
   rcases hl : t.data.toList with _ | ⟨x, l⟩
   · have : t.data.toList.length = 0 := by rw [hl]; rfl
     rw [bs_len] at this
     omega
   · rfl
theorem fit_any (p : Pt) (hs : p.2.2.size ≤ 9223372036854775807) (w : World) :
 Calls Try.prog 105 #[pval p] w fun e w' => e = .returned (.int .i64 (fitE p)) ∧ Below w.heap.size w w' := by
 obtain ⟨k, n, t⟩ := p
 unfold pval
 simp only at hs ⊢
 have hB : ∀ o, Below w.heap.size w (w.alloc o) := fun o => (Below.refl _ _).alloc (Nat.le_refl _) _
 have HB := Lib.hid hB
 clear hB
 obtain ⟨r, hr⟩ : ∃ r, fitE (k, n, t) = r := ⟨_, rfl⟩
 rw [hr]
 have Hr := Lib.hid hr
 clear hr
 by_cases hk1 : k = 1 ∨ k = 3
 · have hf : Hid (r = if n < 1 ∨ t.size ≠ 0 then 3 else if 500 < n then 2 else 0) := Lib.hid (by rw [← Hr.out]; unfold fitE; rw [if_pos hk1])
   by_cases hn : n < 1
   · obtain rfl : r = 3 := by rw [hf.out, if_pos (.inl hn)]
     clear hf Hr
     rcases hk1 with rfl | rfl
     all_goals
      go_enter Try.func105, Try.ntmps105
      go_wp2_with fail
      go_ret
      exact ⟨rfl, HB.out _⟩
   · rcases str_cases t with rfl | ⟨ht, ht1⟩
     · by_cases hn5 : 500 < n
       · obtain rfl : r = 2 := by rw [hf.out, if_neg (by rintro (h | h); exact hn h; exact h rfl), if_pos hn5]
         clear hf Hr
         rcases hk1 with rfl | rfl
         all_goals
          go_enter Try.func105, Try.ntmps105
          go_wp2_with fail
          go_ret
          exact ⟨rfl, HB.out _⟩
       · obtain rfl : r = 0 := by rw [hf.out, if_neg (by rintro (h | h); exact hn h; exact h rfl), if_neg hn5]
         clear hf Hr
         rcases hk1 with rfl | rfl
         all_goals
          go_enter Try.func105, Try.ntmps105
          go_wp2_with fail
          go_ret
          exact ⟨rfl, HB.out _⟩
     · obtain rfl : r = 3 := by rw [hf.out, if_pos (.inr (by omega))]
       clear hf Hr
       rcases hk1 with rfl | rfl
       all_goals
        go_enter Try.func105, Try.ntmps105
        go_wp2_with fail
        go_ret
        exact ⟨rfl, HB.out _⟩
 · by_cases hk2 : k = 2
   · subst hk2
     have hf : Hid (r = if n ≠ 0 ∨ t.size = 0 then 3 else if 500 < t.size then 2 else 0) := Lib.hid (by rw [← Hr.out]; unfold fitE; rw [if_neg (by simp), if_pos rfl])
     clear hk1
     by_cases hn : n = 0
     · subst hn
       rcases str_cases t with rfl | ⟨ht, ht1⟩
       · obtain rfl : r = 3 := by rw [hf.out, if_pos (.inr rfl)]
         clear hf Hr
         go_enter Try.func105, Try.ntmps105
         go_wp2_with fail
         go_ret
         exact ⟨rfl, HB.out _⟩
       · by_cases h5 : 500 < t.size
         · obtain rfl : r = 2 := by rw [hf.out, if_neg (by omega), if_pos h5]
           have h5' : (500 : Int) < (t.size : Int) := by omega
           clear hf Hr
           go_enter Try.func105, Try.ntmps105
           go_wp2_with fail
           go_ret
           exact ⟨rfl, HB.out _⟩
         · obtain rfl : r = 0 := by rw [hf.out, if_neg (by omega), if_neg h5]
           have h5' : (t.size : Int) ≤ 500 := by omega
           clear hf Hr
           go_enter Try.func105, Try.ntmps105
           go_wp2_with fail
           go_ret
           exact ⟨rfl, HB.out _⟩
     · obtain rfl : r = 3 := by rw [hf.out, if_pos (.inl hn)]
       have hne : (n != 0) = true := by simpa using hn
       clear hf Hr hn
       go_enter Try.func105, Try.ntmps105
       go_wp2_with fail
       go_ret
       exact ⟨rfl, HB.out _⟩
   · obtain rfl : r = 3 := by rw [← Hr.out]; unfold fitE; rw [if_neg hk1, if_neg hk2]
     have e1 : (k == 1) = false := by simp; omega
     have e2 : (k == 2) = false := by simp; omega
     have e3 : (k == 3) = false := by simp; omega
     clear Hr hk1 hk2
     go_enter Try.func105, Try.ntmps105
     go_wp2_with fail
     go_ret
     exact ⟨rfl, HB.out _⟩
theorem szI_snoc (l : List Pt) (p : Pt) : szI (l ++ [p]) = szI l + (if p.1 = 1 ∨ p.1 = 3 then p.2.1 else 0) := by
 induction l with
 | nil => simp [szI]
 | cons q l ih => simp only [List.cons_append, szI, ih]; omega
theorem szO_snoc (l : List Pt) (p : Pt) : szO (l ++ [p]) = szO l + (if p.1 = 1 then p.2.1 else if p.1 = 3 then 0 else (p.2.2.size : Int)) := by
 induction l with
 | nil => simp [szO]
 | cons q l ih => simp only [List.cons_append, szO, ih]; omega
theorem fit_bounds (p : Pt) (h : fitE p = 0) : ((p.1 = 1 ∨ p.1 = 3) ∧ 1 ≤ p.2.1 ∧ p.2.1 ≤ 500 ∧ p.2.2 = emp) ∨ (p.1 = 2 ∧ p.2.1 = 0 ∧ 1 ≤ (p.2.2.size : Int) ∧ (p.2.2.size : Int) ≤ 500) := by
 obtain ⟨h1, h2, h3⟩ := (fitE_zero p).1 h
 rcases h1 with ⟨h1, h4, h5⟩ | ⟨h1, h4, h5⟩
 · exact .inl ⟨h1, h4, h2, h5⟩
 · exact .inr ⟨h1, h4, by omega, by omega⟩
theorem sizes_any (l : List Pt) (A : Option Addr) (n c B : Nat) (w : World) (h : RdP w B A n c l) (hB : B ≤ w.heap.size) (hn : (n : Int) ≤ 2000) (hf : ∀ p ∈ l, fitE p = 0) :
 Calls Try.prog 106 #[.slice A n c] w fun e w' => e = .returned (.tuple #[.int .i64 (szI l), .int .i64 (szO l)]) ∧ Below w.heap.size w w' := by
 have H := Lib.hid h
 have HF := Lib.hid hf
 clear h hf
 go_enter Try.func106, Try.ntmps106
 go_wp2_with fail
 go_loopw [2, 3, 5, 8] (fun x y q i wr => ∃ (k : Nat) (a b : Int), k ≤ n ∧ i = .int .i64 k ∧ x = .int .i64 a ∧ y = .int .i64 b ∧ Hid (a = szI (l.take k)) ∧ Hid (b = szO (l.take k)) ∧ 0 ≤ a ∧ a ≤ 500 * k ∧ 0 ≤ b ∧ b ≤ 500 * k ∧ Below w.heap.size w wr) (fun _ _ _ i _ => n - (intOf i).toNat)
 case atStart => exact ⟨0, 0, 0, by omega, rfl, rfl, rfl, Lib.hid rfl, Lib.hid rfl, by omega, by omega, by omega, by omega, Below.refl _ _⟩
 case round =>
  obtain ⟨k, a, b, hk, rfl, rfl, rfl, ha, hb, ha0, ha1, hb0, hb1, hbw⟩ := hrel
  by_cases hlt : k < n
  · have hkl : k < l.length := by have := H.out.1; omega
    obtain ⟨g, o, rfl, hg, c0, c1, c2⟩ := (H.out.below (hbw.mono hB)).at_ k hlt
    have hfit := HF.out l[k] (List.getElem_mem hkl)
    have hts : Hid (l.take (k + 1) = l.take k ++ [l[k]]) := Lib.hid (by rw [List.take_succ_eq_append_getElem hkl])
    obtain ⟨p, hp⟩ : ∃ p, p = l[k] := ⟨_, rfl⟩
    rw [← hp] at hfit hts c0 c1 c2
    clear hp
    have hbd := fit_bounds p hfit
    obtain ⟨kd, m, t⟩ := p
    simp only at hbd c0 c1 c2
    have hk0 : (0 : Int) ≤ (k : Int) := by omega
    have hkn : (k : Int) < (n : Int) := by omega
    have hgl : g < wr.heap.size := by have := hbw.size; omega
    clear hfit
    rcases hbd with ⟨rfl | rfl, h1, h2, rfl⟩ | ⟨rfl, rfl, h1, h2⟩
    · go_wp2_with fail
      go_roundw
      case rel => exact ⟨k + 1, a + m, b + m, by omega, by go_num, rfl, rfl, Lib.hid (by rw [hts.out, szI_snoc, ← ha.out]; simp), Lib.hid (by rw [hts.out, szO_snoc, ← hb.out]; simp), by omega, by omega, by omega, by omega, hbw.alloc hbw.size _⟩
      case measure => simp [intOf]; omega
    · go_wp2_with fail
      go_roundw
      case rel => exact ⟨k + 1, a + m, b, by omega, by go_num, rfl, rfl, Lib.hid (by rw [hts.out, szI_snoc, ← ha.out]; simp), Lib.hid (by rw [hts.out, szO_snoc, ← hb.out]; simp), by omega, by omega, by omega, by omega, hbw.alloc hbw.size _⟩
      case measure => simp [intOf]; omega
    · go_wp2_with fail
      go_roundw
      case rel => exact ⟨k + 1, a, b + t.size, by omega, by go_num, rfl, rfl, Lib.hid (by rw [hts.out, szI_snoc, ← ha.out]; simp), Lib.hid (by rw [hts.out, szO_snoc, ← hb.out]; simp), by omega, by omega, by omega, by omega, hbw.alloc hbw.size _⟩
      case measure => simp [intOf]; omega
  · have hka : Hid (a = szI l) := Lib.hid (by rw [ha.out, List.take_of_length_le (by have := H.out.1; omega)])
    have hkb : Hid (b = szO l) := Lib.hid (by rw [hb.out, List.take_of_length_le (by have := H.out.1; omega)])
    clear ha hb
    go_wp2_with fail
    go_ret2
    exact ⟨by show Ending.returned (.tuple #[.int .i64 a, .int .i64 b]) = _; rw [← hka.out, ← hkb.out], hbw⟩
theorem chk_large (l : List Pt) (A : Option Addr) (n c B : Nat) (w : World) (h : RdP w B A n c l) (hn : (1600 : Int) < (n : Int)) :
 Calls Try.prog 76 #[.slice A n c] w fun e w' => e = .returned (.int .i64 (chk l)) ∧ Below w.heap.size w w' := by
 have hk : Hid (chk l = 2) := Lib.hid (by unfold chk; rw [if_pos (by have := h.1; omega)])
 rw [hk.out]
 clear h hk
 go_enter Try.func76, Try.ntmps76
 go_wp2_with fail
 go_ret
 exact ⟨rfl, Below.refl _ _⟩
theorem fit_call (k m : Int) (t : ByteArray) (r : Int) (hr : fitE (k, m, t) = r) (hs : t.size ≤ 140737488351232) (w : World) :
 Calls Try.prog 105 #[.agg #[.int .i64 k, .int .i64 m, .string t]] w fun e w' => e = .returned (.int .i64 r) ∧ Below w.heap.size w w' := by
 rw [← hr]
 exact fit_any (k, m, t) (by simp only; omega) w
theorem chk_any (l : List Pt) (A : Option Addr) (n c B : Nat) (w : World) (h : RdP w B A n c l) (hB : B ≤ w.heap.size) :
 Calls Try.prog 76 #[.slice A n c] w fun e w' => e = .returned (.int .i64 (chk l)) ∧ Below w.heap.size w w' := by
 by_cases hn : (1600 : Int) < (n : Int)
 · exact chk_large l A n c B w h hn
 have hn' : (n : Int) ≤ 1600 := by omega
 have hck : Hid (chk l = if chkL 0 l ≠ 0 then chkL 0 l else if 500 < max (szI l) (szO l) then 2 else 0) := Lib.hid (by unfold chk; rw [if_neg (by have := h.1; omega)])
 obtain ⟨R, hR⟩ : ∃ R, chkL 0 l = R := ⟨_, rfl⟩
 rw [hR] at hck
 have H := Lib.hid h
 have HR := Lib.hid hR
 clear h hn hR
 go_enter Try.func76, Try.ntmps76
 go_wp2_with fail
 go_loopw [3, 5, 6, 14] (fun x q e i wr => ∃ (k : Nat) (last : Int), k ≤ n ∧ i = .int .i64 k ∧ x = .int .i64 last ∧ Hid (R = chkL last (l.drop k)) ∧ Hid (∀ p ∈ l.take k, fitE p = 0) ∧ Below w.heap.size w wr) (fun _ _ _ i _ => n - (intOf i).toNat)
 case atStart => exact ⟨0, 0, by omega, rfl, rfl, Lib.hid (by rw [List.drop_zero, HR.out]), Lib.hid (by simp), Below.refl _ _⟩
 case round =>
  obtain ⟨k, last, hk, rfl, rfl, hrest, hfit, hbw⟩ := hrel
  by_cases hlt : k < n
  · have hkl : k < l.length := by have := H.out.1; omega
    obtain ⟨g, o, rfl, hg, c0, c1, c2⟩ := (H.out.below (hbw.mono hB)).at_ k hlt
    have hts : Hid (l.take (k + 1) = l.take k ++ [l[k]]) := Lib.hid (by rw [List.take_succ_eq_append_getElem hkl])
    have hdr : Hid (l.drop k = l[k] :: l.drop (k + 1)) := Lib.hid (List.drop_eq_getElem_cons hkl)
    have hsz := H.out.2.2 l[k] (List.getElem_mem hkl)
    obtain ⟨p, hp⟩ : ∃ p, p = l[k] := ⟨_, rfl⟩
    rw [← hp] at hts hdr c0 c1 c2 hsz
    clear hp
    obtain ⟨kd, m, t⟩ := p
    simp only at c0 c1 c2 hsz
    have hk0 : (0 : Int) ≤ (k : Int) := by omega
    have hkn : (k : Int) < (n : Int) := by omega
    have hgl : g < wr.heap.size := by have := hbw.size; omega
    have hstep : Hid (R = if kd = last ∨ (last = 3 ∧ kd = 2) then 3 else if fitE (kd, m, t) ≠ 0 then fitE (kd, m, t) else chkL kd (l.drop (k + 1))) := Lib.hid (by rw [hrest.out, hdr.out]; rfl)
    have hw1 := hbw.alloc hbw.size (.cells #[.int .i64 kd, .int .i64 m, .string t] 88)
    have hblk := Blk.new wr 88 #[.int .i64 kd, .int .i64 m, .string t]
    have Hblk := Lib.hid hblk
    clear hblk
    by_cases h1 : kd = last
    · subst h1
      have hR3 : Hid (R = 3) := Lib.hid (by rw [hstep.out, if_pos (.inl rfl)])
      clear hrest
      go_wp2_with fail
      go_ret
      refine ⟨?_, hw1⟩
      rw [hck.out, hR3.out]
      rfl
    · have h1' : (kd == last) = false := by simpa using h1
      by_cases h2 : last = 3 ∧ kd = 2
      · obtain ⟨rfl, rfl⟩ := h2
        have hR3 : Hid (R = 3) := Lib.hid (by rw [hstep.out, if_pos (.inr ⟨rfl, rfl⟩)])
        clear hrest h1 h1'
        go_wp2_with fail
        go_ret
        refine ⟨?_, hw1⟩
        rw [hck.out, hR3.out]
        rfl
      · have hR3 : Hid (R = if fitE (kd, m, t) ≠ 0 then fitE (kd, m, t) else chkL kd (l.drop (k + 1))) := Lib.hid (by rw [hstep.out, if_neg (by rintro (h | h); exact h1 h; exact h2 h)])
        obtain ⟨r, hr⟩ : ∃ r, fitE (kd, m, t) = r := ⟨_, rfl⟩
        rw [hr] at hR3
        have Hr := Lib.hid hr
        clear hrest h1 hr hstep
        by_cases h3 : last = 3
        · subst h3
          have h4 : (kd == 2) = false := by simp; omega
          clear h2
          go_wp2_with fail
          refine (fit_call kd m t r Hr.out hsz _).mono ?_
          rintro e w2 ⟨rfl, hb2⟩
          have hw2 := hw1.trans (hb2.mono hw1.size)
          have hbl2 := Hblk.out.below hb2 Hblk.out.lt
          have d0 := hbl2.cell 0
          have hlt2 := hbl2.lt
          clear hb2 hbl2
          by_cases hr0 : r = 0
          · subst hr0
            go_wp2_with fail
            go_roundw
            case rel =>
             refine ⟨k + 1, kd, by omega, by go_num, rfl, Lib.hid (by rw [hR3.out]; simp), Lib.hid ?_, hw2⟩
             intro p hp
             rw [hts.out, List.mem_append, List.mem_singleton] at hp
             rcases hp with hp | rfl
             · exact hfit.out p hp
             · exact Hr.out
            case measure => simp [intOf]; omega
          · have hr1 : (r != 0) = true := by simpa using hr0
            have hRr : Hid (R = r ∧ r ≠ 0) := Lib.hid ⟨by rw [hR3.out, if_pos hr0], hr0⟩
            clear hr0
            go_wp2_with fail
            go_ret
            refine ⟨?_, hw2⟩
            rw [hck.out, hRr.out.1, if_pos hRr.out.2]
            rfl
        · have h4 : (last == 3) = false := by simpa using h3
          clear h2 h3
          go_wp2_with fail
          refine (fit_call kd m t r Hr.out hsz _).mono ?_
          rintro e w2 ⟨rfl, hb2⟩
          have hw2 := hw1.trans (hb2.mono hw1.size)
          have hbl2 := Hblk.out.below hb2 Hblk.out.lt
          have d0 := hbl2.cell 0
          have hlt2 := hbl2.lt
          clear hb2 hbl2
          by_cases hr0 : r = 0
          · subst hr0
            go_wp2_with fail
            go_roundw
            case rel =>
             refine ⟨k + 1, kd, by omega, by go_num, rfl, Lib.hid (by rw [hR3.out]; simp), Lib.hid ?_, hw2⟩
             intro p hp
             rw [hts.out, List.mem_append, List.mem_singleton] at hp
             rcases hp with hp | rfl
             · exact hfit.out p hp
             · exact Hr.out
            case measure => simp [intOf]; omega
          · have hr1 : (r != 0) = true := by simpa using hr0
            have hRr : Hid (R = r ∧ r ≠ 0) := Lib.hid ⟨by rw [hR3.out, if_pos hr0], hr0⟩
            clear hr0
            go_wp2_with fail
            go_ret
            refine ⟨?_, hw2⟩
            rw [hck.out, hRr.out.1, if_pos hRr.out.2]
            rfl
  · have hR0 : Hid (R = 0) := Lib.hid (by rw [hrest.out, List.drop_eq_nil_of_le (by have := H.out.1; omega)]; rfl)
    have hall : ∀ p ∈ l, fitE p = 0 := by
     have := hfit.out
     rwa [List.take_of_length_le (by have := H.out.1; omega)] at this
    have Hall := Lib.hid hall
    clear hrest hall hfit
    go_wp2_with fail
    refine (sizes_any l A n c B _ (H.out.below (hbw.mono hB)) (by have := hbw.size; omega) (by omega) Hall.out).mono ?_
    rintro e w2 ⟨rfl, hb2⟩
    have hw2 := hbw.trans (hb2.mono hbw.size)
    clear hb2
    obtain ⟨M, hM⟩ : ∃ M, max (szI l) (szO l) = M := ⟨_, rfl⟩
    have HM := Lib.hid hM
    clear hM
    by_cases hM5 : 500 < M
    · go_wp2_with (first | (refine wpList_max2 rfl (.tmp 44) (.tmp 45) _ rfl _ _ _ rfl rfl HM.out ?_))
      go_ret
      exact ⟨by rw [hck.out, hR0.out, HM.out, if_neg (by simp), if_pos (show 500 < M by omega)]; rfl, hw2⟩
    · go_wp2_with (first | (refine wpList_max2 rfl (.tmp 44) (.tmp 45) _ rfl _ _ _ rfl rfl HM.out ?_))
      go_ret
      exact ⟨by rw [hck.out, hR0.out, HM.out, if_neg (by simp), if_neg (show ¬ 500 < M by omega)]; rfl, hw2⟩
def Good (l : List Pt) : Prop := chk l = 0
theorem good_iff (l : List Pt) : Good l ↔ l.length ≤ 1600 ∧ Adj l ∧ (∀ p ∈ l, fitE p = 0) ∧ szI l ≤ 500 ∧ szO l ≤ 500 := by
 unfold Good chk
 constructor
 · intro h
   split at h
   · omega
   · split at h
     · omega
     · split at h
       · omega
       · rename_i h1 h2 h3
         have h4 : chkL 0 l = 0 := by omega
         obtain ⟨_, _, ha, hf⟩ := (chkL_zero l 0).1 h4
         exact ⟨by omega, ha, hf, by omega, by omega⟩
 · rintro ⟨h1, h2, h3, h4, h5⟩
   have h6 : chkL 0 l = 0 := (chkL_zero l 0).2 ⟨by
    rcases l with _ | ⟨p, l⟩
    · exact .inr rfl
    · left
      have := fit_bounds p (h3 p (by simp))
      simp only [hk]
      omega, by omega, h2, h3⟩
   rw [if_neg (by omega), if_neg (by omega), if_neg (by omega)]
theorem Good.fine {l : List Pt} (h : Good l) : Fine l := fun p hp => ((fitE_zero p).1 (((good_iff l).1 h).2.2.1 p hp)).1
theorem Good.nI {l : List Pt} (h : Good l) : (nI (units l) : Int) = szI l := nI_units l h.fine
theorem Good.nO {l : List Pt} (h : Good l) : (nO (units l) : Int) = szO l := nO_units l h.fine
theorem psizes_err (l : List Pt) (A : Option Addr) (n c B : Nat) (w : World) (h : RdP w B A n c l) (hB : B ≤ w.heap.size) (hk : chk l ≠ 0) :
 Calls Try.prog 92 #[.slice A n c] w fun e w' => e = .returned (.tuple #[.int .i64 0, .int .i64 0, .int .i64 (chk l)]) ∧ Below w.heap.size w w' := by
 have H := Lib.hid h
 have hne : ((chk l) != 0) = true := by simpa using hk
 clear h hk
 go_enter Try.func92, Try.ntmps92
 go_wp2_with fail
 refine (chk_any l A n c B _ H.out hB).mono ?_
 rintro e w1 ⟨rfl, hb1⟩
 go_wp2_with fail
 go_ret3
 exact ⟨rfl, hb1⟩
theorem psizes_good (l : List Pt) (A : Option Addr) (n c B : Nat) (w : World) (h : RdP w B A n c l) (hB : B ≤ w.heap.size) (hk : chk l = 0) :
 Calls Try.prog 92 #[.slice A n c] w fun e w' => e = .returned (.tuple #[.int .i64 (nI (units l)), .int .i64 (nO (units l)), .int .i64 0]) ∧ Below w.heap.size w w' := by
 have H := Lib.hid h
 have Hk := Lib.hid hk
 have HF := Lib.hid ((good_iff l).1 hk)
 have hn : (n : Int) ≤ 2000 := by have := HF.out.1; have := h.1; omega
 clear h hk
 go_enter Try.func92, Try.ntmps92
 go_wp2_with fail
 refine (chk_any l A n c B _ H.out hB).mono ?_
 rintro e w1 ⟨rfl, hb1⟩
 rw [Hk.out]
 go_wp2_with fail
 refine (sizes_any l A n c B _ (H.out.below (hb1.mono hB)) (by have := hb1.size; omega) hn HF.out.2.2.1).mono ?_
 rintro e w2 ⟨rfl, hb2⟩
 have hb := hb1.trans (hb2.mono hb1.size)
 have e1 := Good.nI (l := l) Hk.out
 have e2 := Good.nO (l := l) Hk.out
 rw [← e1, ← e2]
 clear e1 e2
 go_wp2_with fail
 go_ret3
 exact ⟨rfl, hb⟩
end Go.Proofs.Ytokngfinnieccaa
