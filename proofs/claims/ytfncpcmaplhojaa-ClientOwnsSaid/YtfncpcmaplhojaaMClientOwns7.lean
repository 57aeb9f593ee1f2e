/- What part.Norm says; plain lists, no program. Contracts of part.Norm, part.Idle, scrivref.In. Two deltas gone through side by side: what is told, step by step; plain lists, no program. -/
import Derived.Test.YtfncpcmaplhojaaMClientOwns4
import Derived.Test.YtfncpcmaplhojaaMClientOwns6
namespace Go.Proofs.Ytfncpcmaplhojaa
set_option linter.unusedVariables false
set_option linter.unusedSimpArgs false

def nerr1 (p : Pt) : Int := if p.1 < 1 ∨ 3 < p.1 ∨ p.2.1 < 0 ∨ (p.1 = 2 ∧ 0 < p.2.1) ∨ (p.1 ≠ 2 ∧ p.2.2.size ≠ 0) then 3 else if 500 < p.2.1 ∨ 500 < p.2.2.size then 2 else 0
def nerr : List Pt → Int
  | [] => 0
  | p :: l => if nerr1 p ≠ 0 then nerr1 p else nerr l
def normE (l : List Pt) : Int := if 1600 < l.length then 2 else if nerr l ≠ 0 then nerr l else chk (grp (cz (units l)))
def normL (l : List Pt) : List Pt := if normE l = 0 then grp (cz (units l)) else []
def NOk (p : Pt) : Prop := ((p.1 = 1 ∨ p.1 = 3) ∧ 0 ≤ p.2.1 ∧ p.2.1 ≤ 500 ∧ p.2.2 = emp) ∨ (p.1 = 2 ∧ p.2.1 = 0 ∧ p.2.2.size ≤ 500)
theorem nerr1_big {kd m : Int} (hk : kd = 1 ∨ kd = 3) (h : 500 < m) : nerr1 (kd, m, emp) = 2 := by
  have hz : emp.size = 0 := rfl
  unfold nerr1
  simp only
  rw [if_neg (by omega), if_pos (.inl h)]
theorem nerr1_zero (p : Pt) : nerr1 p = 0 ↔ NOk p := by
  unfold nerr1 NOk
  constructor
  · intro h
    split at h
    · omega
    · split at h
      · omega
      · rename_i h1 h2
        by_cases hk : p.1 = 2
        · exact .inr ⟨hk, by omega, by omega⟩
        · exact .inl ⟨by omega, by omega, by omega, emp_of_size (by omega)⟩
  · intro h
    rcases h with ⟨h1, h2, h3, h4⟩ | ⟨h1, h2, h3⟩
    · have : p.2.2.size = 0 := by rw [h4]; rfl
      rw [if_neg (by omega), if_neg (by omega)]
    · rw [if_neg (by omega), if_neg (by omega)]
theorem nerr_zero : ∀ l : List Pt, nerr l = 0 ↔ ∀ p ∈ l, NOk p
  | [] => by simp [nerr]
  | p :: l => by
    have h1 := nerr1_zero p
    have h2 := nerr_zero l
    simp only [nerr, List.mem_cons, forall_eq_or_imp]
    rw [← h1, ← h2]
    by_cases h : nerr1 p = 0
    · simp [h]
    · simp [h]
theorem nok_of_fit {p : Pt} (h : fitE p = 0) : NOk p := by
  obtain ⟨h1, h2, h3⟩ := (fitE_zero p).1 h
  rcases h1 with ⟨h1, h4, h5⟩ | ⟨h1, h4, h5⟩
  · exact .inl ⟨h1, by omega, h2, h5⟩
  · exact .inr ⟨h1, h4, h3⟩
theorem norm_good {l : List Pt} (h : chk l = 0) : normE l = 0 ∧ normL l = l := by
  have hp := chk_parts h
  have h1 : nerr l = 0 := (nerr_zero l).2 fun p hp' => nok_of_fit (hp.2.2.2.2.2 p hp')
  have h2 := grp_cz_good h
  have h3 : normE l = 0 := by
    unfold normE
    rw [if_neg (by omega), if_neg (by omega), h2, h]
  refine ⟨h3, ?_⟩
  unfold normL
  rw [if_pos h3, h2]
theorem norm_chk {l : List Pt} (h : normE l = 0) : chk (normL l) = 0 ∧ normL l = grp (cz (units l)) ∧ (∀ p ∈ l, NOk p) ∧ l.length ≤ 1600 := by
  have e : normL l = grp (cz (units l)) := by unfold normL; rw [if_pos h]
  unfold normE at h
  split at h
  · omega
  · split at h
    · omega
    · rename_i h1 h2
      rw [e]
      exact ⟨h, rfl, (nerr_zero l).1 (by omega), by omega⟩
theorem norm_again {l : List Pt} (h : normE l = 0) : normE (normL l) = 0 ∧ normL (normL l) = normL l := norm_good (norm_chk h).1
theorem norm_err {l : List Pt} (h : normE l ≠ 0) : normL l = [] := by unfold normL; rw [if_neg h]
/-- all that is in a list of parts -/
def szN : List Pt → Int
  | [] => 0
  | p :: l => p.2.1 + szN l
theorem nI_nok (p : Pt) (h : NOk p) : (nI (up p) : Int) = p.2.1 := by
  obtain ⟨k, n, t⟩ := p
  rcases h with ⟨h1 | h1, h2, h3, h4⟩ | ⟨h1, h2, h3⟩
  · simp only at h1 h2; subst h1
    simp only [up, if_true]
    rw [nI_keeps]; omega
  · simp only at h1 h2; subst h1
    rw [show up ((3, n, t) : Pt) = List.replicate n.toNat (some none) from rfl, nI_cuts]; simp only; omega
  · simp only at h1 h2; subst h1; subst h2
    have := nI_pu t
    rw [show up ((2, 0, t) : Pt) = pu t from rfl, this]; rfl
theorem nI_noks : ∀ l : List Pt, (∀ p ∈ l, NOk p) → (nI (units l) : Int) = szN l
  | [], _ => rfl
  | p :: l, h => by
    have h1 := nI_nok p (h p (by simp))
    have h2 := nI_noks l fun q hq => h q (by simp [hq])
    rw [units_cons, nI_append]
    simp only [szN]
    omega
theorem nO_nok (p : Pt) (h : NOk p) : (nO (up p) : Int) ≤ 500 := by
  obtain ⟨k, n, t⟩ := p
  rcases h with ⟨h1 | h1, h2, h3, h4⟩ | ⟨h1, h2, h3⟩
  · simp only at h1 h2 h3; subst h1
    simp only [up, if_true]
    rw [nO_keeps]; omega
  · simp only at h1 h2; subst h1
    rw [show up ((3, n, t) : Pt) = List.replicate n.toNat (some none) from rfl, nO_cuts]; simp
  · simp only at h1 h2 h3; subst h1; subst h2
    have := nO_pu t
    rw [show up ((2, 0, t) : Pt) = pu t from rfl, this]; omega
theorem len_nok (p : Pt) (h : NOk p) : (up p).length ≤ 500 := by
  obtain ⟨k, n, t⟩ := p
  rcases h with ⟨h1 | h1, h2, h3, h4⟩ | ⟨h1, h2, h3⟩
  · simp only at h1 h2 h3; subst h1
    simp only [up, if_true, List.length_replicate]; omega
  · simp only at h1 h2 h3; subst h1
    rw [show up ((3, n, t) : Pt) = List.replicate n.toNat (some none) from rfl, List.length_replicate]; omega
  · simp only at h1 h2 h3; subst h1; subst h2
    rw [show up ((2, 0, t) : Pt) = pu t from rfl]
    unfold pu
    rw [List.length_map]; exact h3
theorem len_noks : ∀ l : List Pt, (∀ p ∈ l, NOk p) → (units l).length ≤ 500 * l.length
  | [], _ => Nat.le_refl _
  | p :: l, h => by
    have h1 := len_nok p (h p (by simp))
    have h2 := len_noks l fun q hq => h q (by simp [hq])
    rw [units_cons, List.length_append, List.length_cons]; omega
theorem nI_le_len : ∀ us : List U, nI us ≤ us.length ∧ nO us ≤ us.length
  | [] => ⟨Nat.le_refl _, Nat.le_refl _⟩
  | none :: us => by have := nI_le_len us; simp only [List.length_cons, nI, nO]; omega
  | some none :: us => by have := nI_le_len us; simp only [List.length_cons, nI, nO]; omega
  | some (some b) :: us => by have := nI_le_len us; simp only [List.length_cons, nI, nO]; omega
theorem text_le {l : List Pt} (h : Fine l) : ∀ p ∈ l, p.2.2.size ≤ (units l).length := by
  intro p hp
  have h1 := lenP_sizes l h p hp
  have h2 := (nI_le_len (units l)).2
  rcases h p hp with ⟨_, _, h3⟩ | ⟨h3, _, _⟩
  · rw [h3]; exact Nat.zero_le _
  · have := h1.2 h3; omega
theorem text_good {l : List Pt} (h : chk l = 0) : ∀ p ∈ l, p.2.2.size ≤ 140737488351232 := fun p hp => by
  have := ((fitE_zero p).1 ((chk_parts h).2.2.2.2.2 p hp)).2.2
  omega
theorem chkL_fine : ∀ (d : List Pt) (last : Int), (hk d ≠ last ∨ d = []) → ¬ (last = 3 ∧ hk d = 2) → Adj d → Fine d → chkL last d = 0 ∨ chkL last d = 2
  | [], _, _, _, _, _ => .inl rfl
  | p :: l, last, h1, h2, ha, hf => by
    have h1' : p.1 ≠ last := by rcases h1 with h | h; exact h; simp at h
    have h2' : ¬ (last = 3 ∧ p.1 = 2) := h2
    have hp := fitE_large p (hf p (by simp))
    simp only [chkL]
    rw [if_neg (by rintro (h | h); exact h1' h; exact h2' h)]
    rcases hp with hp | hp
    · rw [if_neg (by simp [hp])]
      refine chkL_fine l p.1 ?_ ?_ ?_ fun q hq => hf q (by simp [hq])
      · rcases l with _ | ⟨q, l⟩
        · exact .inr rfl
        · exact .inl fun e => ha.1 e.symm
      · rcases l with _ | ⟨q, l⟩
        · simp [hk]
        · exact ha.2.1
      · rcases l with _ | ⟨q, l⟩
        · trivial
        · exact ha.2.2
    · rw [if_pos (by simp [hp])]; exact .inr hp
theorem chk_unfit {us : List U} (hc : Cn us) {p : Pt} (hp : p ∈ grp us) (hf : fitE p ≠ 0) : chk (grp us) = 2 := by
  have h1 := chkL_fine (grp us) 0 (by
    rcases us with _ | ⟨u, us⟩
    · exact .inr rfl
    · left
      rw [hk_grp]
      rcases u with _ | _ | b <;> simp [kU, one]) (by omega) (adj_grp us hc) (fine_grp us)
  have h2 : chkL 0 (grp us) ≠ 0 := fun h => hf (((chkL_zero _ 0).1 h).2.2.2 p hp)
  unfold chk
  split
  · rfl
  · omega
theorem nerr_append (a b : List Pt) (h : nerr a = 0) : nerr (a ++ b) = nerr b := by
  induction a with
  | nil => rfl
  | cons p a ih =>
    simp only [nerr] at h
    have h0 : nerr1 p = 0 := by
      by_cases h0 : nerr1 p = 0
      · exact h0
      · rw [if_pos h0] at h; exact absurd h h0
    rw [if_neg (by simp [h0])] at h
    simp only [List.cons_append, nerr]
    rw [if_neg (by simp [h0]), ih h]
end Go.Proofs.Ytfncpcmaplhojaa
namespace Go.Proofs.Ytfncpcmaplhojaa
open Go.ChangeShapes Go.WideShapes Go.RowKit
set_option linter.unusedVariables false
set_option linter.unusedSimpArgs false
set_option maxRecDepth 100000
set_option maxHeartbeats 4000000

section
variable {w w' : World} {B g : Nat} {ob ob' : Option Nat} {us : List U} {S : Nat → Prop}
theorem Mk.alloc (h : Mk w B g ob us) (o : Obj) : Mk (w.alloc o) B g ob us := by
  obtain ⟨o', p, c, ⟨v, h1, h2, h3⟩, h4⟩ := h
  exact ⟨o', p, c, ⟨v, h1.alloc o, World.ownsRow.alloc h2 o, h3⟩, h4⟩
theorem Mk.ge (h : Mk w B g ob us) : ∀ k, ob = some k → B ≤ k ∧ k < w.heap.size ∧ k ≠ g := by
  obtain ⟨o', p, c, ⟨v, h1, h2, h3⟩, h4⟩ := h
  intro k hk
  rw [← h3] at hk
  refine ⟨own_ge h2 k hk, own_lt h2 k hk, fun e => ?_⟩
  subst e
  exact own_blk_ne (t := 165) h2 h1 (by decide) hk
theorem Mk.lt (h : Mk w B g ob us) : g < w.heap.size := by
  obtain ⟨o', p, c, ⟨v, h1, h2, h3⟩, h4⟩ := h
  exact h1.lt
theorem Mk.only (h : Mk w B g ob us) (ho : Only w w' S) (h1 : ¬ S g) (h2 : ∀ k, ob = some k → ¬ S k) : Mk w' B g ob us := by
  obtain ⟨o', p, c, ⟨v, h3, h4, h5⟩, h6⟩ := h
  exact ⟨o', p, c, ⟨v, h3.only ho h1, own_only h4 ho fun k hk => h2 k (by rw [← h5]; exact hk), h5⟩, h6⟩
theorem MFr.below_ (h : MFr w w' g ob ob') (hB : B ≤ w.heap.size) (hg : B ≤ g) (ho : ∀ k, ob = some k → B ≤ k) : Below B w w' := h.1.below hB fun k hk => by
  rcases hk with rfl | hk
  · exact hg
  · exact ho k hk
theorem Mk.fresh (w : World) (o : Obj) : Mk (w.alloc (.cells #[.slice none 0 0, .string ⟨#[]⟩, .int .i64 0] 165)) w.heap.size w.heap.size none [] :=
  ⟨[], emp, 0, ⟨_, Blk.new w _ _, OwnP.nil _ _, rfl⟩, MRep.new⟩
end
/-- the result of a call that makes a delta or tells an error -/
def ResP (w w' : World) (e : Ending) (er : Int) (l : List Pt) : Prop := ∃ v, e = .returned (.tuple #[v, .int .i64 er]) ∧ OwnP w' w.heap.size v l ∧ Below w.heap.size w w'
theorem ResP.err (w : World) {w' : World} (er : Int) (hb : Below w.heap.size w w') : ResP w w' (.returned (.tuple #[.slice none 0 0, .int .i64 er])) er [] := ⟨_, rfl, OwnP.nil _ _, hb⟩
theorem ResP.rd {w w' : World} {e : Ending} {er : Int} {l : List Pt} (h : ResP w w' e er l) (ht : ∀ p ∈ l, p.2.2.size ≤ 140737488351232) :
    ∃ A c, e = .returned (.tuple #[.slice A l.length c, .int .i64 er]) ∧ RdP w' w'.heap.size A l.length c l ∧ Below w.heap.size w w' := by
  obtain ⟨v, rfl, ho, hb⟩ := h
  obtain ⟨A, c, rfl, hr⟩ := ho.rd ht
  exact ⟨A, c, rfl, hr, hb⟩
/-- how a part may be wrong -/
inductive PC (kd m : Int) (t : ByteArray) : Prop
  | lo (h : kd < 1) | hi (h : 3 < kd)
  | neg (k : kd = 1 ∨ kd = 2 ∨ kd = 3) (h : m < 0)
  | num (k : kd = 2) (h : 0 < m)
  | txt (k : kd = 1 ∨ kd = 3) (h : 0 ≤ m) (ht : t.toList.isEmpty = false) (h1 : 1 ≤ (t.size : Int))
  | big (k : kd = 1 ∨ kd = 3) (h : 500 < m) (ht : t = ⟨#[]⟩)
  | bigt (k : kd = 2) (h : m = 0) (ht : 500 < (t.size : Int))
  | keep (k : kd = 1) (h : 0 ≤ m) (h5 : m ≤ 500) (ht : t = ⟨#[]⟩)
  | cut (k : kd = 3) (h : 0 ≤ m) (h5 : m ≤ 500) (ht : t = ⟨#[]⟩)
  | put (k : kd = 2) (h : m = 0) (ht : (t.size : Int) ≤ 500)
theorem pc_any (kd m : Int) (t : ByteArray) : PC kd m t := by
  by_cases h1 : kd < 1
  · exact .lo h1
  by_cases h3 : 3 < kd
  · exact .hi h3
  by_cases hm : m < 0
  · exact .neg (by omega) hm
  by_cases h2 : kd = 2
  · by_cases h0 : 0 < m
    · exact .num h2 h0
    · by_cases ht : 500 < t.size
      · exact .bigt h2 (by omega) (by omega)
      · exact .put h2 (by omega) (by omega)
  · rcases str_cases t with ht | ⟨ht, ht1⟩
    · by_cases h5 : 500 < m
      · exact .big (by omega) h5 ht
      · rcases (show kd = 1 ∨ kd = 3 by omega) with hk | hk
        · exact .keep hk (by omega) (by omega) ht
        · exact .cut hk (by omega) (by omega) ht
    · exact .txt (by omega) (by omega) ht ht1
theorem norm_step (l : List Pt) (k : Nat) (h : k < l.length) (hz : nerr (l.take k) = 0) : nerr1 l[k] ≠ 0 → nerr l = nerr1 l[k] := by
  intro hne
  have e : l = l.take k ++ (l[k] :: l.drop (k + 1)) := by
    rw [← List.drop_eq_getElem_cons h, List.take_append_drop]
  have h2 : nerr l = nerr (l[k] :: l.drop (k + 1)) := by
    conv => lhs; rw [e]
    exact nerr_append _ _ hz
  rw [h2]
  simp only [nerr]
  rw [if_pos hne]
theorem texts_norm (l : List Pt) : ∀ p ∈ normL l, p.2.2.size ≤ 140737488351232 := by
  by_cases h : normE l = 0
  · exact text_good (norm_chk h).1
  · rw [norm_err h]; simp
end Go.Proofs.Ytfncpcmaplhojaa
namespace Go.Proofs.Ytfncpcmaplhojaa
set_option linter.unusedVariables false
set_option linter.unusedSimpArgs false

def compE (a b : List Pt) : Int := if chk a ≠ 0 then chk a else if chk b ≠ 0 then chk b else if nO (units a) ≠ nI (units b) then 4 else 0
def compL (a b : List Pt) : List Pt := if compE a b = 0 then grp (cz (cmp (units a) (units b))) else []
/-- told, and still to tell -/
def CI (told xs ys X : List U) : Prop := told ++ cmp xs ys = X ∧ nO xs = nI ys
theorem cu_nat (n : Nat) : cu (n : Int) = List.replicate n (some none) := by simp [cu]
theorem ku_nat (n : Nat) : ku (n : Int) = List.replicate n none := by simp [ku]
theorem pu_len (s : ByteArray) : (pu s).length = s.size := by simp [pu]
section
variable {told ys xs X : List U} {r rx ry : List Pt} {N M : Int} {t s : ByteArray} {u v n : Nat}
theorem cstep_cut (h : CI told (rem ((3, N, t) :: r) u) ys X) (hs : Shape (3, N, t)) (hu : u + n ≤ N.toNat) : CI (told ++ cu n) (rem (adv ((3, N, t) :: r) u n).1 (adv ((3, N, t) :: r) u n).2) ys X := by
  obtain ⟨h1, h2⟩ := h
  rw [rem_cut hs hu] at h1 h2
  rw [cmp_cuts] at h1
  rw [nO_append, nO_cuts] at h2
  exact ⟨by rw [cu_nat, List.append_assoc]; exact h1, by omega⟩
theorem cstep_put (h : CI told xs (rem ((2, M, t) :: r) u) X) (hx : ∀ r, xs ≠ some none :: r) (hs : Shape (2, M, t)) (hu : u + n ≤ t.size) : CI (told ++ pu (t.extract u (u + n))) xs (rem (adv ((2, M, t) :: r) u n).1 (adv ((2, M, t) :: r) u n).2) X := by
  obtain ⟨h1, h2⟩ := h
  rw [rem_put hs hu] at h1 h2
  rw [nI_append, nI_pu] at h2
  unfold pu at h1
  rw [cmp_puts _ _ _ hx] at h1
  exact ⟨by rw [List.append_assoc]; exact h1, by omega⟩
theorem cstep_kk (h : CI told (rem ((1, N, t) :: rx) u) (rem ((1, M, s) :: ry) v) X) (hs : Shape (1, N, t)) (hs' : Shape (1, M, s)) (hu : u + n ≤ N.toNat) (hv : v + n ≤ M.toNat) :
    CI (told ++ ku n) (rem (adv ((1, N, t) :: rx) u n).1 (adv ((1, N, t) :: rx) u n).2) (rem (adv ((1, M, s) :: ry) v n).1 (adv ((1, M, s) :: ry) v n).2) X := by
  obtain ⟨h1, h2⟩ := h
  rw [rem_keep hs hu, rem_keep hs' hv] at h1 h2
  rw [cmp_kk] at h1
  rw [nO_append, nI_append, nO_keeps, nI_keeps] at h2
  exact ⟨by rw [ku_nat, List.append_assoc]; exact h1, by omega⟩
theorem cstep_kc (h : CI told (rem ((1, N, t) :: rx) u) (rem ((3, M, s) :: ry) v) X) (hs : Shape (1, N, t)) (hs' : Shape (3, M, s)) (hu : u + n ≤ N.toNat) (hv : v + n ≤ M.toNat) :
    CI (told ++ cu n) (rem (adv ((1, N, t) :: rx) u n).1 (adv ((1, N, t) :: rx) u n).2) (rem (adv ((3, M, s) :: ry) v n).1 (adv ((3, M, s) :: ry) v n).2) X := by
  obtain ⟨h1, h2⟩ := h
  rw [rem_keep hs hu, rem_cut hs' hv] at h1 h2
  rw [cmp_kc] at h1
  rw [nO_append, nI_append, nO_keeps, nI_cuts] at h2
  exact ⟨by rw [cu_nat, List.append_assoc]; exact h1, by omega⟩
theorem ext_len (hu : u + n ≤ t.size) : (t.extract u (u + n)).size = n := by
  have : (t.extract u (u + n)).data.toList.length = n := by
    rw [ByteArray.data_extract, Array.toList_extract, List.extract_eq_take_drop, List.length_take, List.length_drop]
    have : t.data.toList.length = t.size := rfl
    omega
  exact this
theorem cstep_pk (h : CI told (rem ((2, N, t) :: rx) u) (rem ((1, M, s) :: ry) v) X) (hs : Shape (2, N, t)) (hs' : Shape (1, M, s)) (hu : u + n ≤ t.size) (hv : v + n ≤ M.toNat) :
    CI (told ++ pu (t.extract u (u + n))) (rem (adv ((2, N, t) :: rx) u n).1 (adv ((2, N, t) :: rx) u n).2) (rem (adv ((1, M, s) :: ry) v n).1 (adv ((1, M, s) :: ry) v n).2) X := by
  obtain ⟨h1, h2⟩ := h
  rw [rem_put hs hu, rem_keep hs' hv] at h1 h2
  rw [nO_append, nI_append, nO_pu, nI_keeps, ext_len hu] at h2
  have e : (t.extract u (u + n)).data.toList.length = n := ext_len hu
  have e2 : List.replicate n (none : U) = List.replicate (t.extract u (u + n)).data.toList.length none := by rw [e]
  unfold pu at h1
  rw [e2, cmp_pk] at h1
  exact ⟨by rw [List.append_assoc]; exact h1, by omega⟩
theorem cstep_pc (h : CI told (rem ((2, N, t) :: rx) u) (rem ((3, M, s) :: ry) v) X) (hs : Shape (2, N, t)) (hs' : Shape (3, M, s)) (hu : u + n ≤ t.size) (hv : v + n ≤ M.toNat) :
    CI told (rem (adv ((2, N, t) :: rx) u n).1 (adv ((2, N, t) :: rx) u n).2) (rem (adv ((3, M, s) :: ry) v n).1 (adv ((3, M, s) :: ry) v n).2) X := by
  obtain ⟨h1, h2⟩ := h
  rw [rem_put hs hu, rem_cut hs' hv] at h1 h2
  rw [nO_append, nI_append, nO_pu, nI_cuts, ext_len hu] at h2
  have e : (t.extract u (u + n)).data.toList.length = n := ext_len hu
  have e2 : List.replicate n (some none : U) = List.replicate (t.extract u (u + n)).data.toList.length (some none) := by rw [e]
  unfold pu at h1
  rw [e2, cmp_pc] at h1
  exact ⟨h1, by omega⟩
theorem rem_nocut_keep (hs : Shape (1, N, t)) (hu : u < N.toNat) : ∀ r', rem ((1, N, t) :: r) u ≠ some none :: r' := by
  intro r' e
  rw [rem_keep (n := 1) hs (by omega)] at e
  simp at e
theorem rem_noput_keep (hs : Shape (1, N, t)) (hu : u < N.toNat) : ∀ c r', rem ((1, N, t) :: r) u ≠ some (some c) :: r' := by
  intro c r' e
  rw [rem_keep (n := 1) hs (by omega)] at e
  simp at e
theorem rem_noput_cut (hs : Shape (3, N, t)) (hu : u < N.toNat) : ∀ c r', rem ((3, N, t) :: r) u ≠ some (some c) :: r' := by
  intro c r' e
  rw [rem_cut (n := 1) hs (by omega)] at e
  simp at e
theorem rem_nocut_put (hs : Shape (2, N, t)) (hu : u < t.size) : ∀ r', rem ((2, N, t) :: r) u ≠ some none :: r' := by
  intro r' e
  rw [rem_put (n := 1) hs (by omega)] at e
  have hl : (pu (t.extract u (u + 1))).length = 1 := by rw [pu_len, ext_len (by omega)]
  obtain ⟨x, hx⟩ := List.length_eq_one_iff.1 hl
  have hm : x ∈ pu (t.extract u (u + 1)) := by rw [hx]; simp
  rw [hx] at e
  unfold pu at hm
  obtain ⟨b, _, rfl⟩ := List.mem_map.1 hm
  simp at e
theorem nI_rem_keep (hs : Shape (1, N, t)) (hu : u < N.toNat) : 1 ≤ nI (rem ((1, N, t) :: r) u) ∧ 1 ≤ nO (rem ((1, N, t) :: r) u) := by
  rw [rem_keep (n := 1) hs (by omega), nI_append, nO_append, nI_keeps, nO_keeps]; omega
theorem nI_rem_cut (hs : Shape (3, N, t)) (hu : u < N.toNat) : 1 ≤ nI (rem ((3, N, t) :: r) u) := by
  rw [rem_cut (n := 1) hs (by omega), nI_append, nI_cuts]; omega
theorem nO_rem_put (hs : Shape (2, N, t)) (hu : u < t.size) : 1 ≤ nO (rem ((2, N, t) :: r) u) := by
  rw [rem_put (n := 1) hs (by omega), nO_append, nO_pu, ext_len (by omega)]; omega
end
theorem CI.len {told xs ys X : List U} (h : CI told xs ys X) : told.length ≤ X.length := by
  rw [← h.1, List.length_append]; omega
theorem CI.fin {told X : List U} (h : CI told [] [] X) : told = X := by
  have := h.1
  simpa [cmp, lead] using this
theorem comp_chk {a b : List Pt} (h : compE a b = 0) : chk a = 0 ∧ chk b = 0 ∧ nO (units a) = nI (units b) ∧ compL a b = grp (cz (cmp (units a) (units b))) ∧ chk (compL a b) = 0 := by
  have e : compL a b = grp (cz (cmp (units a) (units b))) := by unfold compL; rw [if_pos h]
  unfold compE at h
  split at h
  · omega
  · split at h
    · omega
    · split at h
      · omega
      · rename_i h1 h2 h3
        have ha : chk a = 0 := by omega
        have hb : chk b = 0 := by omega
        have hn : nO (units a) = nI (units b) := by omega
        refine ⟨ha, hb, hn, e, ?_⟩
        rw [e]
        exact good_cz (by rw [nI_cmp _ _ hn]; exact (chk_parts ha).2.2.2.1) (by rw [nO_cmp _ _ hn]; exact (chk_parts hb).2.2.2.2.1)
theorem comp_units {a b : List Pt} (h : compE a b = 0) : units (compL a b) = cz (cmp (units a) (units b)) := by rw [(comp_chk h).2.2.2.1, units_grp]
theorem comp_err {a b : List Pt} (h : compE a b ≠ 0) : compL a b = [] := by unfold compL; rw [if_neg h]
theorem comp_zero {a b : List Pt} (ha : chk a = 0) (hb : chk b = 0) (hn : nO (units a) = nI (units b)) : compE a b = 0 := by
  unfold compE; rw [if_neg (by omega), if_neg (by omega), if_neg (by omega)]
theorem comp_sizes {a b : List Pt} (h : compE a b = 0) : nI (units (compL a b)) = nI (units a) ∧ nO (units (compL a b)) = nO (units b) := by
  rw [comp_units h, nI_cz, nO_cz, nI_cmp _ _ (comp_chk h).2.2.1, nO_cmp _ _ (comp_chk h).2.2.1]; exact ⟨rfl, rfl⟩
theorem comp_eq {a b a' b' : List Pt} (h : compE a b = 0) (h' : compE a' b' = 0) (he : cz (cmp (units a) (units b)) = cz (cmp (units a') (units b'))) : compL a b = compL a' b' := by
  rw [(comp_chk h).2.2.2.1, (comp_chk h').2.2.2.1, he]
theorem joins_left {a b c : List Pt} (h1 : compE a b = 0) (h2 : compE b c = 0) : compE (compL a b) c = 0 ∧ compE a (compL b c) = 0 ∧ compL (compL a b) c = compL a (compL b c) := by
  have q1 := comp_chk h1
  have q2 := comp_chk h2
  have e1 : compE (compL a b) c = 0 := comp_zero q1.2.2.2.2 q2.2.1 (by rw [(comp_sizes h1).2]; exact q2.2.2.1)
  have e2 : compE a (compL b c) = 0 := comp_zero q1.1 q2.2.2.2.2 (by rw [(comp_sizes h2).1]; exact q1.2.2.1)
  refine ⟨e1, e2, comp_eq e1 e2 ?_⟩
  rw [comp_units h1, comp_units h2]
  exact comp_assoc q1.2.2.1 q2.2.2.1
theorem all_left {a : List Pt} (h : chk a = 0) : compE (allL (nI (units a))) a = 0 ∧ compL (allL (nI (units a))) a = a := by
  have hn := (chk_parts h).2.2.2.1
  have e : compE (allL (nI (units a))) a = 0 := comp_zero (all_chk _ hn) h (by rw [all_units, nO_keeps])
  refine ⟨e, ?_⟩
  rw [(comp_chk e).2.2.2.1, all_units, comp_left rfl, grp_cz_good h]
theorem all_right {a : List Pt} (h : chk a = 0) : compE a (allL (nO (units a))) = 0 ∧ compL a (allL (nO (units a))) = a := by
  have hn := (chk_parts h).2.2.2.2.1
  have e : compE a (allL (nO (units a))) = 0 := comp_zero h (all_chk _ hn) (by rw [all_units, nI_keeps])
  refine ⟨e, ?_⟩
  rw [(comp_chk e).2.2.2.1, all_units, comp_right rfl, grp_cz_good h]
theorem put_all {s : ByteArray} (h1 : 1 ≤ s.size) (h : s.size ≤ 500) : compE [(2, 0, s)] (allL s.size) = 0 ∧ compL [(2, 0, s)] (allL s.size) = [(2, 0, s)] := by
  have := all_right (put_chk s h1 h)
  rwa [put_units, nO_pu] at this
end Go.Proofs.Ytfncpcmaplhojaa
