/- Laws on deltas as units: right ones, compositions, turns; plain lists, no program. What apply.Do says; plain lists, no program. Contracts of apply.Fits, apply.Do. Histories; plain lists, no program. -/
import Derived.Test.YtmnnaemcjmiplaaK4
namespace Go.Proofs.Ytmnnaemcjmiplaa
set_option linter.unusedVariables false
set_option linter.unusedSimpArgs false

theorem lenP_sizes : ∀ (l : List Pt), Fine l → ∀ p ∈ l, ((p.1 = 1 ∨ p.1 = 3) → p.2.1 ≤ nI (units l)) ∧ (p.1 = 2 → p.2.2.size ≤ nO (units l))
  | [], _, p, hp => by simp at hp
  | q :: l, h, p, hp => by
    have hq := h q (by simp)
    rw [units_cons, nI_append, nO_append]
    rcases List.mem_cons.1 hp with rfl | hp
    · have h1 := nI_up p hq
      have h2 := nO_up p hq
      refine ⟨fun hk => ?_, fun hk => ?_⟩
      · rw [if_pos hk] at h1; omega
      · rw [if_neg (by omega), if_neg (by omega)] at h2; omega
    · have := lenP_sizes l (fun x hx => h x (by simp [hx])) p hp
      exact ⟨fun hk => by have := this.1 hk; omega, fun hk => by have := this.2 hk; omega⟩
/-- of units in their form, not too many, a right delta is made -/
theorem good_grp {us : List U} (hc : Cn us) (hi : nI us ≤ 500) (ho : nO us ≤ 500) : chk (grp us) = 0 := by
  have hf := fine_grp us
  have hu := units_grp us
  have hl : (grp us).length ≤ us.length := by
    have hadd : ∀ (u : U) (l : List Pt), (addU u l).length ≤ l.length + 1 := by
      intro u l
      rcases u with _ | _ | x <;> rcases l with _ | ⟨p, l⟩ <;> simp only [addU] <;> (try split) <;> simp
    have : ∀ us : List U, (grp us).length ≤ us.length := by
      intro us
      induction us with
      | nil => exact Nat.le_refl _
      | cons u us ih => have := hadd u (grp us); simp only [grp, List.length_cons]; omega
    exact this us
  have hs := len_sizes us
  have h1 := nI_units (grp us) hf
  have h2 := nO_units (grp us) hf
  rw [hu] at h1 h2
  have hfit : ∀ p ∈ grp us, fitE p = 0 := by
    intro p hp
    have hb := lenP_sizes (grp us) hf p hp
    rw [hu] at hb
    refine (fitE_zero p).2 ⟨hf p hp, ?_, ?_⟩
    · rcases hf p hp with ⟨h3, _, _⟩ | ⟨_, h4, _⟩
      · have := hb.1 h3; omega
      · omega
    · rcases hf p hp with ⟨_, _, h5⟩ | ⟨h3, _, _⟩
      · rw [h5]; exact Nat.zero_le _
      · have := hb.2 h3; omega
  have h0 : chkL 0 (grp us) = 0 := (chkL_zero _ 0).2 ⟨by
    rcases us with _ | ⟨u, us⟩
    · exact .inr rfl
    · left
      rw [hk_grp]
      rcases u with _ | _ | b <;> simp [kU, one], by omega, adj_grp us hc, hfit⟩
  unfold chk
  rw [if_neg (by omega), if_neg (by omega), if_neg (by omega)]
theorem good_cz {us : List U} (hi : nI us ≤ 500) (ho : nO us ≤ 500) : chk (grp (cz us)) = 0 :=
  good_grp (cn_cz us) (by rw [nI_cz]; exact hi) (by rw [nO_cz]; exact ho)
theorem chk_parts {l : List Pt} (h : chk l = 0) : l.length ≤ 1600 ∧ Adj l ∧ Fine l ∧ nI (units l) ≤ 500 ∧ nO (units l) ≤ 500 ∧ ∀ p ∈ l, fitE p = 0 := by
  unfold chk at h
  split at h
  · omega
  · split at h
    · omega
    · split at h
      · omega
      · rename_i h1 h2 h3
        obtain ⟨_, _, ha, hf⟩ := (chkL_zero l 0).1 (show chkL 0 l = 0 by omega)
        have hfi : Fine l := fun p hp => ((fitE_zero p).1 (hf p hp)).1
        have h4 := nI_units l hfi
        have h5 := nO_units l hfi
        exact ⟨by omega, ha, hfi, by omega, by omega, hf⟩
theorem cn_good {l : List Pt} (h : chk l = 0) : Cn (units l) := cn_units l (chk_parts h).2.1 (chk_parts h).2.2.1
theorem cz_good {l : List Pt} (h : chk l = 0) : cz (units l) = units l := cz_of_cn _ (cn_good h)
theorem grp_good {l : List Pt} (h : chk l = 0) : grp (units l) = l := grp_units l (chk_parts h).2.1 (chk_parts h).2.2.1
theorem grp_cz_good {l : List Pt} (h : chk l = 0) : grp (cz (units l)) = l := by rw [cz_good h, grp_good h]
theorem good_of_cz {l : List Pt} (h : chk l = 0) {us : List U} (e : cz us = units l) : grp (cz us) = l := by rw [e, grp_good h]

theorem ap_keeps {α : Type} (f : UInt8 → α) : ∀ (s : List α), ap f (List.replicate s.length none) s = s
  | [] => rfl
  | x :: s => by rw [List.length_cons, List.replicate_succ]; simp only [ap]; rw [ap_keeps f s]
theorem nI_keeps (n : Nat) : nI (List.replicate n none) = n := by
  induction n with
  | zero => rfl
  | succ n ih => rw [List.replicate_succ]; simp only [nI]; rw [ih]
theorem nO_keeps (n : Nat) : nO (List.replicate n none) = n := by
  induction n with
  | zero => rfl
  | succ n ih => rw [List.replicate_succ]; simp only [nO]; rw [ih]
theorem nI_cuts (n : Nat) : nI (List.replicate n (some none)) = n := by
  induction n with
  | zero => rfl
  | succ n ih => rw [List.replicate_succ]; simp only [nI]; rw [ih]
theorem nO_cuts (n : Nat) : nO (List.replicate n (some none)) = 0 := by
  induction n with
  | zero => rfl
  | succ n ih => rw [List.replicate_succ]; simp only [nO]; rw [ih]
theorem nI_pu (s : ByteArray) : nI (pu s) = 0 := by
  unfold pu
  induction s.data.toList with
  | nil => rfl
  | cons x l ih => simpa [nI] using ih
theorem nO_pu (s : ByteArray) : nO (pu s) = s.size := by
  have : ∀ l : List UInt8, nO (l.map (fun b => (some (some b) : U))) = l.length := by
    intro l
    induction l with
    | nil => rfl
    | cons x l ih => simp [nO, ih]
  unfold pu
  rw [this]; rfl

/-- three as one -/
theorem comp_assoc {a b c : List U} (h1 : nO a = nI b) (h2 : nO b = nI c) : cz (cmp (cz (cmp a b)) c) = cz (cmp a (cz (cmp b c))) := by
  have e1 := nI_cmp a b h1
  have e2 := nO_cmp a b h1
  have e3 := nI_cmp b c h2
  have hL : nO (cz (cmp a b)) = nI c := by rw [nO_cz]; omega
  have hR : nO a = nI (cz (cmp b c)) := by rw [nI_cz]; omega
  refine cz_of_ap (by rw [nI_cmp _ _ hL, nI_cmp _ _ hR, nI_cz]; omega) fun s hs => ?_
  rw [nI_cmp _ _ hL, nI_cz] at hs
  have hsa : nI a = s.length := by omega
  rw [ap_cmp _ _ _ hL s (by rw [nI_cz]; omega), ap_cz _ _ _ (by omega), ap_cmp _ _ _ h1 s hsa, ap_cmp _ _ _ hR s hsa, ap_cz _ _ _ (by rw [ap_length _ _ _ hsa]; omega), ap_cmp _ _ _ h2 _ (by rw [ap_length _ _ _ hsa]; omega)]
theorem comp_left {a : List U} {n : Nat} (h : nI a = n) : cz (cmp (List.replicate n none) a) = cz a := by
  have h0 : nO (List.replicate n none) = nI a := by rw [nO_keeps, h]
  refine cz_of_ap (by rw [nI_cmp _ _ h0, nI_keeps, h]) fun s hs => ?_
  rw [nI_cmp _ _ h0, nI_keeps] at hs
  rw [ap_cmp _ _ _ h0 s (by rw [nI_keeps]; omega)]
  subst hs
  rw [ap_keeps]
theorem comp_right {a : List U} {n : Nat} (h : nO a = n) : cz (cmp a (List.replicate n none)) = cz a := by
  have h0 : nO a = nI (List.replicate n none) := by rw [nI_keeps, h]
  refine cz_of_ap (by rw [nI_cmp _ _ h0]) fun s hs => ?_
  rw [nI_cmp _ _ h0] at hs
  rw [ap_cmp _ _ _ h0 s (by omega)]
  have e : (ap (.inr : UInt8 → Nat ⊕ UInt8) a s).length = n := by rw [ap_length _ _ _ (by omega), h]
  subst e
  rw [ap_keeps]

/-- the other way -/
def tn : List U → List UInt8 → List U
  | none :: us, _ :: s => none :: tn us s
  | some none :: us, x :: s => some (some x) :: tn us s
  | some (some _) :: us, s => some none :: tn us s
  | _, _ => []
theorem nI_tn : ∀ (us : List U) (s : List UInt8), nI us = s.length → nI (tn us s) = nO us
  | [], s, _ => by simp [tn, nI, nO]
  | none :: us, [], h => by simp [nI] at h
  | none :: us, x :: s, h => by simp [tn, nI, nO, nI_tn us s (by simpa [nI] using h)]
  | some none :: us, [], h => by simp [nI] at h
  | some none :: us, x :: s, h => by simp [tn, nI, nO, nI_tn us s (by simpa [nI] using h)]
  | some (some b) :: us, s, h => by simp [tn, nI, nO, nI_tn us s (by simpa [nI] using h)]
theorem nO_tn : ∀ (us : List U) (s : List UInt8), nI us = s.length → nO (tn us s) = nI us
  | [], s, _ => by simp [tn, nI, nO]
  | none :: us, [], h => by simp [nI] at h
  | none :: us, x :: s, h => by simp [tn, nI, nO, nO_tn us s (by simpa [nI] using h)]
  | some none :: us, [], h => by simp [nI] at h
  | some none :: us, x :: s, h => by simp [tn, nI, nO, nO_tn us s (by simpa [nI] using h)]
  | some (some b) :: us, s, h => by simp [tn, nI, nO, nO_tn us s (by simpa [nI] using h)]
theorem ap_tn : ∀ (us : List U) (s : List UInt8), nI us = s.length → ap id (tn us s) (ap id us s) = s
  | [], [], _ => by simp [tn, ap]
  | [], x :: s, h => by simp [nI] at h
  | none :: us, [], h => by simp [nI] at h
  | none :: us, x :: s, h => by simp [tn, ap, ap_tn us s (by simpa [nI] using h)]
  | some none :: us, [], h => by simp [nI] at h
  | some none :: us, x :: s, h => by simp [tn, ap, ap_tn us s (by simpa [nI] using h)]
  | some (some b) :: us, s, h => by simp [tn, ap, ap_tn us s (by simpa [nI] using h)]
theorem tn_tn : ∀ (us : List U) (s : List UInt8), nI us = s.length → tn (tn us s) (ap id us s) = us
  | [], [], _ => by simp [tn, ap]
  | [], x :: s, h => by simp [nI] at h
  | none :: us, [], h => by simp [nI] at h
  | none :: us, x :: s, h => by simp [tn, ap, tn_tn us s (by simpa [nI] using h)]
  | some none :: us, [], h => by simp [nI] at h
  | some none :: us, x :: s, h => by simp [tn, ap, tn_tn us s (by simpa [nI] using h)]
  | some (some b) :: us, s, h => by simp [tn, ap, tn_tn us s (by simpa [nI] using h)]
theorem tn_append : ∀ (us vs : List U) (s t : List UInt8), nI us = s.length → tn (us ++ vs) (s ++ t) = tn us s ++ tn vs t
  | [], vs, [], t, _ => by simp [tn]
  | [], vs, x :: s, t, h => by simp [nI] at h
  | none :: us, vs, [], t, h => by simp [nI] at h
  | none :: us, vs, x :: s, t, h => by simp [tn, tn_append us vs s t (by simpa [nI] using h)]
  | some none :: us, vs, [], t, h => by simp [nI] at h
  | some none :: us, vs, x :: s, t, h => by simp [tn, tn_append us vs s t (by simpa [nI] using h)]
  | some (some b) :: us, vs, s, t, h => by simp [tn, tn_append us vs s t (by simpa [nI] using h)]
theorem tn_insC (y : UInt8) (t : List UInt8) : ∀ v : List U, cz (tn (insC v) (y :: t)) = cz (some (some y) :: tn v t)
  | [] => rfl
  | none :: v => rfl
  | some none :: v => rfl
  | some (some b) :: v => by
    have ih := tn_insC y t v
    have e : tn (insC (some (some b) :: v)) (y :: t) = some none :: tn (insC v) (y :: t) := rfl
    have e2 : tn (some (some b) :: v) t = some none :: tn v t := rfl
    rw [e, e2]
    simp only [cz, insC] at ih ⊢
    rw [ih]
    rfl
theorem tn_cz : ∀ (us : List U) (s : List UInt8), nI us = s.length → cz (tn (cz us) s) = cz (tn us s)
  | [], s, _ => rfl
  | none :: us, [], h => by simp [nI] at h
  | none :: us, x :: s, h => by simp [cz, tn, tn_cz us s (by simpa [nI] using h)]
  | some none :: us, [], h => by simp [nI] at h
  | some none :: us, x :: s, h => by
    have ih := tn_cz us s (by simpa [nI] using h)
    simp only [cz]
    rw [tn_insC]
    simp only [cz, tn]
    rw [ih]
  | some (some b) :: us, s, h => by simp [cz, tn, tn_cz us s (by simpa [nI] using h)]
theorem tn_twice (us : List U) (s : List UInt8) (h : nI us = s.length) : cz (tn (cz (tn us s)) (ap id us s)) = cz us := by
  rw [tn_cz _ _ (by rw [nI_tn us s h, ap_length id us s h]), tn_tn us s h]
theorem ap_tn_cmp {α : Type} (f : UInt8 → α) (a b : List U) (h : nO a = nI b) : ∀ (s : List UInt8) (z : List α), nI a = s.length → z.length = nO b → ap f (tn (cmp a b) s) z = ap f (tn a s) (ap f (tn b (ap id a s)) z) := by
  refine cmp_ind (M := fun a b => ∀ (s : List UInt8) (z : List α), nI a = s.length → z.length = nO b → ap f (tn (cmp a b) s) z = ap f (tn a s) (ap f (tn b (ap id a s)) z)) ?_ ?_ ?_ ?_ ?_ ?_ ?_ _ a b (Nat.le_refl _) h
  · intro s z hs hz
    obtain rfl : s = [] := List.eq_nil_of_length_eq_zero (by simpa [nI] using hs.symm)
    obtain rfl : z = [] := List.eq_nil_of_length_eq_zero (by simpa [nO] using hz)
    rfl
  · intro xs ys h ih s z hs hz
    obtain ⟨x, s, rfl⟩ : ∃ x s', s = x :: s' := by rcases s with _ | ⟨x, s⟩; simp [nI] at hs; exact ⟨x, s, rfl⟩
    simp [cmp, tn, ap, ih s z (by simpa [nI] using hs) hz]
  · intro xs b ys hx h ih s z hs hz
    obtain ⟨y, z, rfl⟩ : ∃ x s', z = x :: s' := by rcases z with _ | ⟨x, s⟩; simp [nO] at hz; exact ⟨x, s, rfl⟩
    rw [cmp_put _ _ _ hx]
    simp [tn, ap, ih s z hs (by simpa [nO] using hz)]
  · intro xs ys h ih s z hs hz
    obtain ⟨x, s, rfl⟩ : ∃ x s', s = x :: s' := by rcases s with _ | ⟨x, s⟩; simp [nI] at hs; exact ⟨x, s, rfl⟩
    obtain ⟨y, z, rfl⟩ : ∃ x s', z = x :: s' := by rcases z with _ | ⟨x, s⟩; simp [nO] at hz; exact ⟨x, s, rfl⟩
    simp [cmp, lead, rst, tn, ap, ih s z (by simpa [nI] using hs) (by simpa [nO] using hz)]
  · intro xs ys h ih s z hs hz
    obtain ⟨x, s, rfl⟩ : ∃ x s', s = x :: s' := by rcases s with _ | ⟨x, s⟩; simp [nI] at hs; exact ⟨x, s, rfl⟩
    simp [cmp, lead, rst, tn, ap, ih s z (by simpa [nI] using hs) (by simpa [nO] using hz)]
  · intro b xs ys h ih s z hs hz
    obtain ⟨y, z, rfl⟩ : ∃ x s', z = x :: s' := by rcases z with _ | ⟨x, s⟩; simp [nO] at hz; exact ⟨x, s, rfl⟩
    simp [cmp, lead, rst, tn, ap, ih s z (by simpa [nI] using hs) (by simpa [nO] using hz)]
  · intro b xs ys h ih s z hs hz
    simp [cmp, lead, rst, tn, ap, ih s z (by simpa [nI] using hs) (by simpa [nO] using hz)]
theorem turn_parts {a b : List U} (h : nO a = nI b) (s : List UInt8) (hs : nI a = s.length) : cz (tn (cz (cmp a b)) s) = cz (cmp (cz (tn b (ap id a s))) (cz (tn a s))) := by
  have hl : (ap id a s).length = nO a := ap_length id a s hs
  have hb : nI b = (ap id a s).length := by omega
  have hc := nI_cmp a b h
  rw [tn_cz _ _ (by omega)]
  have hm : nO (cz (tn b (ap id a s))) = nI (cz (tn a s)) := by rw [nO_cz, nI_cz, nO_tn _ _ hb, nI_tn _ _ hs]; omega
  refine cz_of_ap (by rw [nI_tn _ _ (by omega), nO_cmp _ _ h, nI_cmp _ _ hm, nI_cz, nI_tn _ _ hb]) fun z hz => ?_
  rw [nI_tn _ _ (by omega), nO_cmp _ _ h] at hz
  rw [ap_tn_cmp _ a b h s z hs hz, ap_cmp _ _ _ hm z (by rw [nI_cz, nI_tn _ _ hb]; omega), ap_cz _ _ z (by rw [nI_tn _ _ hb]; omega), ap_cz]
  rw [nI_tn _ _ hs, ap_length _ _ _ (by rw [nI_tn _ _ hb]; omega), nO_tn _ _ hb]
  omega
/-- two, beside each other -/
theorem comp_beside {a b c d : List U} (h1 : nO a = nI b) (h2 : nO c = nI d) : cz (cz (cmp a b) ++ cz (cmp c d)) = cz (cmp (cz (a ++ c)) (cz (b ++ d))) := by
  have h3 : nO (cz (a ++ c)) = nI (cz (b ++ d)) := by rw [nO_cz, nI_cz, nO_append, nI_append]; omega
  have e1 := nI_cmp a b h1
  have e2 := nI_cmp c d h2
  refine cz_of_ap (by rw [nI_cmp _ _ h3, nI_append, nI_cz, nI_cz, nI_cz, nI_append]; omega) fun s hs => ?_
  rw [nI_append, nI_cz, nI_cz] at hs
  obtain ⟨p, q, rfl, hp⟩ : ∃ p q : List (Nat ⊕ UInt8), s = p ++ q ∧ p.length = nI a := ⟨s.take (nI a), s.drop (nI a), (List.take_append_drop _ _).symm, by rw [List.length_take]; omega⟩
  rw [List.length_append] at hs
  rw [ap_append _ _ _ _ _ (by rw [nI_cz]; omega), ap_cz _ _ p (by omega), ap_cz _ _ q (by omega), ap_cmp _ _ _ h1 p (by omega), ap_cmp _ _ _ h2 q (by omega)]
  rw [ap_cmp _ _ _ h3 _ (by rw [nI_cz, nI_append, List.length_append]; omega), ap_cz _ _ (p ++ q) (by rw [nI_append, List.length_append]; omega), ap_append _ _ _ _ _ (by omega), ap_cz, ap_append]
  · rw [ap_length _ _ _ (by omega)]; omega
  · rw [nI_append, List.length_append, ap_length _ _ _ (by omega), ap_length _ _ _ (by omega)]; omega
theorem turn_beside {a b : List U} (s t : List UInt8) (hs : nI a = s.length) (ht : nI b = t.length) : cz (cz (tn a s) ++ cz (tn b t)) = cz (tn (cz (a ++ b)) (s ++ t)) := by
  rw [tn_cz _ _ (by rw [nI_append, List.length_append]; omega), tn_append _ _ _ _ hs, cz_app_cz, cz_cz_app]
/-- one and what is left of the other -/
theorem meet_same {a b : List U} (h : nI a = nI b) : cz (cmp a (cz (mt a b).2)) = cz (cmp b (cz (mt a b).1)) := by
  obtain ⟨h1, h2⟩ := nI_mt a b h
  have hL : nO a = nI (cz (mt a b).2) := by rw [nI_cz]; omega
  have hR : nO b = nI (cz (mt a b).1) := by rw [nI_cz]; omega
  refine cz_of_ap (by rw [nI_cmp _ _ hL, nI_cmp _ _ hR, h]) fun s hs => ?_
  rw [nI_cmp _ _ hL] at hs
  rw [ap_cmp _ _ _ hL s (by omega), ap_cmp _ _ _ hR s (by omega), ap_cz, ap_cz, ap_mt _ a b h s (by omega)]
  · rw [ap_length _ _ _ (by omega)]; omega
  · rw [ap_length _ _ _ (by omega)]; omega
theorem mt_keeps : ∀ a : List U, mt a (List.replicate (nI a) none) = (a, List.replicate (nO a) none)
  | [] => rfl
  | none :: a => by simp only [nI, nO, List.replicate_succ, mt, lead, rst, List.map_nil, List.nil_append]; rw [mt_keeps a]
  | some none :: a => by simp only [nI, nO, List.replicate_succ, mt, lead, rst, List.map_nil, List.nil_append]; rw [mt_keeps a]
  | some (some b) :: a => by simp only [nI, nO, List.replicate_succ, mt]; rw [mt_keeps a]
theorem mt_keeps_left : ∀ a : List U, mt (List.replicate (nI a) none) a = (List.replicate (nO a) none, a)
  | [] => rfl
  | none :: a => by simp only [nI, nO, List.replicate_succ, mt, lead, rst, List.map_nil, List.nil_append]; rw [mt_keeps_left a]
  | some none :: a => by simp only [nI, nO, List.replicate_succ, mt, lead, rst, List.map_nil, List.nil_append]; rw [mt_keeps_left a]
  | some (some b) :: a => by
    have h : ∀ c r, (List.replicate (nI a) none : List U) ≠ some (some c) :: r := by
      intro c r
      cases nI a <;> simp [List.replicate_succ]
    simp only [nI, nO, List.replicate_succ]; rw [mt_put _ _ _ h, mt_keeps_left a]
/-- how many bytes are put -/
def nP : List U → Nat
  | [] => 0
  | some (some _) :: r => nP r + 1
  | _ :: r => nP r
theorem nP_mt (a b : List U) (h : nI a = nI b) : nP (mt a b).1 = nP a ∧ nP (mt a b).2 = nP b := by
  refine mt_ind (M := fun a b => nP (mt a b).1 = nP a ∧ nP (mt a b).2 = nP b) ⟨rfl, rfl⟩ ?_ ?_ ?_ ?_ ?_ ?_ _ a b (Nat.le_refl _) h
  · intro b xs ys h ih; simpa [mt, nP] using ih
  · intro xs b ys hx h ih; rw [mt_put _ _ _ hx]; simpa [nP] using ih
  all_goals intro xs ys h ih; simpa [mt, nP, lead, rst] using ih
theorem nP_append (a b : List U) : nP (a ++ b) = nP a + nP b := by
  induction a with
  | nil => simp [nP]
  | cons u a ih => rcases u with _ | _ | x <;> simp [nP, ih] <;> omega
theorem nP_insC (us : List U) : nP (insC us) = nP us := by
  induction us with
  | nil => rfl
  | cons u us ih => rcases u with _ | _ | x <;> simp [insC, nP, ih]
theorem nP_cz (us : List U) : nP (cz us) = nP us := by
  induction us with
  | nil => rfl
  | cons u us ih => rcases u with _ | _ | x <;> simp [cz, nP, ih, nP_insC]
def szP : List Pt → Int
  | [] => 0
  | p :: l => (p.2.2.size : Int) + szP l
theorem nP_up (p : Pt) (h : Shape p) : (nP (up p) : Int) = p.2.2.size := by
  obtain ⟨k, n, t⟩ := p
  have hr (u : U) (hu : nP [u] = 0) (n : Nat) : nP (List.replicate n u) = 0 := by
    induction n with
    | zero => rfl
    | succ n ih => rw [List.replicate_succ, show u :: List.replicate n u = [u] ++ List.replicate n u from rfl, nP_append, ih, hu]
  have hp : ∀ l : List UInt8, nP (l.map (fun b => (some (some b) : U))) = l.length := by
    intro l
    induction l with
    | nil => rfl
    | cons x l ih => simp [nP, ih]
  rcases h with ⟨h1 | h1, _, h3⟩ | ⟨h1, _, _⟩
  · simp only at h1 h3; subst h1; subst h3
    simp only [up, if_true]
    rw [hr _ rfl]; rfl
  · simp only at h1 h3; subst h1; subst h3
    rw [show up ((3, n, emp) : Pt) = List.replicate n.toNat (some none) from rfl, hr _ rfl]; rfl
  · simp only at h1; subst h1
    rw [show up ((2, n, t) : Pt) = t.data.toList.map (fun b => some (some b)) from rfl, hp]; rfl
theorem nP_units : ∀ (l : List Pt), Fine l → (nP (units l) : Int) = szP l
  | [], _ => rfl
  | p :: l, h => by
    have h1 := nP_up p (h p (by simp))
    have h2 := nP_units l fun q hq => h q (by simp [hq])
    rw [units_cons, nP_append]
    simp only [szP]
    omega
/-- a delta that keeps n bytes -/
def allL (n : Int) : List Pt := if n = 0 then [] else [(1, n, emp)]
theorem all_units (n : Nat) : units (allL n) = List.replicate n none := by
  unfold allL
  by_cases h : (n : Int) = 0
  · obtain rfl : n = 0 := by omega
    rfl
  · rw [if_neg h]
    simp [units, up]
theorem all_chk (n : Nat) (h : n ≤ 500) : chk (allL n) = 0 := by
  have e : allL n = grp (List.replicate n none) := by
    unfold allL
    by_cases h0 : (n : Int) = 0
    · rw [if_pos h0, show n = 0 by omega]; rfl
    · rw [if_neg h0]
      have := grp_keeps (n - 1) [] (by simp [grp, hk])
      rw [show n - 1 + 1 = n by omega, List.append_nil] at this
      rw [this, show ((n - 1 : Nat) : Int) + 1 = n by omega]
      rfl
  rw [e]
  refine good_grp ?_ (by rw [nI_keeps]; exact h) (by rw [nO_keeps]; exact h)
  clear h e
  induction n with
  | zero => trivial
  | succ n ih => rw [List.replicate_succ]; exact ih
theorem put_units (s : ByteArray) : units [(2, 0, s)] = pu s := by simp [units, up, pu]
theorem put_chk (s : ByteArray) (h1 : 1 ≤ s.size) (h : s.size ≤ 500) : chk [(2, 0, s)] = 0 := by
  have hf : fitE (2, 0, s) = 0 := (fitE_zero _).2 ⟨.inr ⟨rfl, rfl, h1⟩, (by simp only; omega), h⟩
  have h0 : chkL 0 [(2, 0, s)] = 0 := (chkL_zero _ 0).2 ⟨.inl (by simp [hk]), by simp [hk], trivial, by simp [hf]⟩
  have e1 : szI [((2, 0, s) : Pt)] = 0 := by simp [szI]
  have e2 : szO [((2, 0, s) : Pt)] = s.size := by simp [szO]
  unfold chk
  rw [if_neg (by simp), if_neg (by omega), if_neg (by rw [e1, e2]; omega)]
end Go.Proofs.Ytmnnaemcjmiplaa
namespace Go.Proofs.Ytmnnaemcjmiplaa
set_option linter.unusedVariables false
set_option linter.unusedSimpArgs false

def fitsE (d : List Pt) (n : Int) : Int := if chk d ≠ 0 then chk d else if n ≠ (nI (units d) : Int) then 4 else 0
def doE (d : List Pt) (s : ByteArray) : Int := fitsE d s.size
def doS (d : List Pt) (s : ByteArray) : ByteArray := if doE d s = 0 then ⟨(ap id (units d) s.data.toList).toArray⟩ else ⟨#[]⟩
theorem do_chk {d : List Pt} {s : ByteArray} (h : doE d s = 0) : chk d = 0 ∧ nI (units d) = s.size ∧ doS d s = ⟨(ap id (units d) s.data.toList).toArray⟩ ∧ s.size ≤ 500 := by
  have e : doS d s = ⟨(ap id (units d) s.data.toList).toArray⟩ := by unfold doS; rw [if_pos h]
  unfold doE fitsE at h
  split at h
  · omega
  · split at h
    · omega
    · rename_i h1 h2
      have hk : chk d = 0 := by omega
      have := (chk_parts hk).2.2.2.1
      exact ⟨hk, by omega, e, by omega⟩
theorem do_zero {d : List Pt} {s : ByteArray} (hk : chk d = 0) (hn : nI (units d) = s.size) : doE d s = 0 := by
  unfold doE fitsE; rw [if_neg (by omega), if_neg (by omega)]
theorem do_err {d : List Pt} {s : ByteArray} (h : doE d s ≠ 0) : doS d s = ⟨#[]⟩ := by unfold doS; rw [if_neg h]
theorem do_list {d : List Pt} {s : ByteArray} (h : doE d s = 0) : (doS d s).data.toList = ap id (units d) s.data.toList := by rw [(do_chk h).2.2.1]
theorem do_size {d : List Pt} {s : ByteArray} (h : doE d s = 0) : (doS d s).size = nO (units d) := by
  have h1 := do_chk h
  have h2 : (doS d s).size = (doS d s).data.toList.length := rfl
  rw [h2, do_list h, ap_length id _ _ (by rw [h1.2.1]; rfl)]
theorem do_le {d : List Pt} {s : ByteArray} (h : doE d s = 0) : (doS d s).size ≤ 500 := by
  rw [do_size h]; exact (chk_parts (do_chk h).1).2.2.2.2.1
theorem do_size_any (d : List Pt) (s : ByteArray) : (doS d s).size ≤ 500 := by
  by_cases h : doE d s = 0
  · exact do_le h
  · rw [do_err h]; decide
theorem ba_list {s t : ByteArray} (h : s.data.toList = t.data.toList) : s = t := by
  cases s; cases t; simp at h; simp [h]
theorem do_all {s : ByteArray} (h : s.size ≤ 500) : doE (allL s.size) s = 0 ∧ doS (allL s.size) s = s := by
  have e : doE (allL s.size) s = 0 := do_zero (all_chk _ h) (by rw [all_units, nI_keeps])
  refine ⟨e, ba_list ?_⟩
  rw [do_list e, all_units]
  exact ap_keeps id s.data.toList
/-- what is still to do -/
theorem do_step_keep {N : Nat} {t : ByteArray} {l : List Pt} {acc r : List UInt8} {R : List UInt8} (h : acc ++ ap id (units ((1, (N : Int), t) :: l)) r = R) (hn : nI (units ((1, (N : Int), t) :: l)) = r.length) :
    (acc ++ r.take N) ++ ap id (units l) (r.drop N) = R ∧ nI (units l) = (r.drop N).length ∧ N ≤ r.length := by
  have e : up ((1, (N : Int), t) : Pt) = List.replicate N none := by simp [up]
  rw [units_cons, e] at h hn
  rw [nI_append, nI_keeps] at hn
  have h2 : r = r.take N ++ r.drop N := (List.take_append_drop N r).symm
  have h3 : (r.take N).length = N := by rw [List.length_take]; omega
  have h4 := ap_append id (List.replicate N none) (units l) (r.take N) (r.drop N) (by rw [nI_keeps, h3])
  rw [List.take_append_drop] at h4
  rw [h4] at h
  have h5 := ap_keeps (α := UInt8) id (r.take N)
  rw [h3] at h5
  rw [h5] at h
  refine ⟨by rw [List.append_assoc]; exact h, by rw [List.length_drop]; omega, by omega⟩
theorem ap_cuts {α : Type} (f : UInt8 → α) : ∀ (s : List α), ap f (List.replicate s.length (some none)) s = []
  | [] => rfl
  | x :: s => by rw [List.length_cons, List.replicate_succ]; simp only [ap]; rw [ap_cuts f s]
theorem do_step_cut {N : Nat} {t : ByteArray} {l : List Pt} {acc r : List UInt8} {R : List UInt8} (h : acc ++ ap id (units ((3, (N : Int), t) :: l)) r = R) (hn : nI (units ((3, (N : Int), t) :: l)) = r.length) :
    acc ++ ap id (units l) (r.drop N) = R ∧ nI (units l) = (r.drop N).length ∧ N ≤ r.length := by
  have e : up ((3, (N : Int), t) : Pt) = List.replicate N (some none) := by simp [up]
  rw [units_cons, e] at h hn
  rw [nI_append, nI_cuts] at hn
  have h3 : (r.take N).length = N := by rw [List.length_take]; omega
  have h4 := ap_append id (List.replicate N (some none)) (units l) (r.take N) (r.drop N) (by rw [nI_cuts, h3])
  rw [List.take_append_drop] at h4
  rw [h4] at h
  have h5 := ap_cuts (α := UInt8) id (r.take N)
  rw [h3] at h5
  rw [h5] at h
  exact ⟨by simpa using h, by rw [List.length_drop]; omega, by omega⟩
theorem ap_puts {α : Type} (f : UInt8 → α) (t : List UInt8) (us : List U) (r : List α) : ap f (t.map (fun b => some (some b)) ++ us) r = t.map f ++ ap f us r := by
  induction t with
  | nil => rfl
  | cons x t ih => simp only [List.map_cons, List.cons_append, ap]; rw [ih]
theorem do_step_put {N : Int} {t : ByteArray} {l : List Pt} {acc r : List UInt8} {R : List UInt8} (h : acc ++ ap id (units ((2, N, t) :: l)) r = R) (hn : nI (units ((2, N, t) :: l)) = r.length) :
    (acc ++ t.data.toList) ++ ap id (units l) r = R ∧ nI (units l) = r.length := by
  have e : up ((2, N, t) : Pt) = t.data.toList.map (fun b => some (some b)) := by simp [up]
  have h0 : nI (t.data.toList.map (fun b => (some (some b) : U))) = 0 := nI_pu t
  rw [units_cons, e] at h hn
  rw [nI_append, h0] at hn
  rw [ap_puts] at h
  exact ⟨by rw [List.append_assoc]; simpa using h, by omega⟩
end Go.Proofs.Ytmnnaemcjmiplaa
namespace Go.Proofs.Ytmnnaemcjmiplaa
open Go.ChangeShapes Go.WideShapes Go.RowKit
set_option linter.unusedVariables false
set_option linter.unusedSimpArgs false
set_option maxRecDepth 100000
set_option maxHeartbeats 4000000

theorem fits_any (l : List Pt) (A : Option Addr) (n c B : Nat) (m : Nat) (w : World) (h : RdP w B A n c l) (hB : B ≤ w.heap.size) :
    Calls Try.prog 83 #[.slice A n c, .int .i64 m] w fun e w' => e = .returned (.int .i64 (fitsE l m)) ∧ Below w.heap.size w w' := by
  have H := Lib.hid h
  clear h
  by_cases hk : chk l = 0
  · have Hk := Lib.hid hk
    by_cases hm : m = nI (units l)
    · have e : fitsE l m = 0 := by unfold fitsE; rw [if_neg (by omega), if_neg (by omega)]
      rw [e]
      have hc := psizes_good l A n c B w H.out hB hk
      rw [← hm] at hc
      have Hc := Lib.hid hc
      clear hc hk e hm
      go_enter Try.func83, Try.ntmps83
      go_wp2_with fail
      refine Hc.out.mono ?_
      rintro e w1 ⟨rfl, hb⟩
      go_wp2_with fail
      go_ret
      exact ⟨rfl, hb⟩
    · have e : fitsE l m = 4 := by unfold fitsE; rw [if_neg (by omega), if_pos (by omega)]
      rw [e]
      have hne : ((m : Int) != (nI (units l) : Int)) = true := by simp; omega
      clear hk e hm
      go_enter Try.func83, Try.ntmps83
      go_wp2_with fail
      refine (psizes_good l A n c B _ H.out hB Hk.out).mono ?_
      rintro e w1 ⟨rfl, hb⟩
      go_wp2_with fail
      go_ret
      exact ⟨rfl, hb⟩
  · have e : fitsE l m = chk l := by unfold fitsE; rw [if_pos hk]
    rw [e]
    have hne : ((chk l) != 0) = true := by simpa using hk
    have Hk := Lib.hid hk
    clear hk e
    go_enter Try.func83, Try.ntmps83
    go_wp2_with fail
    refine (psizes_err l A n c B _ H.out hB Hk.out).mono ?_
    rintro e w1 ⟨rfl, hb⟩
    go_wp2_with fail
    go_ret
    exact ⟨rfl, hb⟩
theorem do_any (l : List Pt) (A : Option Addr) (n c B : Nat) (s : ByteArray) (w : World) (h : RdP w B A n c l) (hB : B ≤ w.heap.size) (hs : s.size ≤ 9223372036854775807) :
    Calls Try.prog 47 #[.slice A n c, .string s] w fun e w' => e = .returned (.tuple #[.string (doS l s), .int .i64 (doE l s)]) ∧ Below w.heap.size w w' := by
  have H := Lib.hid h
  have hcall : ∀ w' , RdP w' B A n c l → B ≤ w'.heap.size → Calls Try.prog 83 #[.slice A n c, .int .i64 s.size] w' fun e w'' => e = .returned (.int .i64 (doE l s)) ∧ Below w'.heap.size w' w'' := fun w' h1 h2 => fits_any l A n c B s.size w' h1 h2
  have Hcall := Lib.hid hcall
  clear h hcall
  by_cases he : doE l s = 0
  · obtain ⟨hk, hn, hd, h5⟩ := do_chk he
    rw [he, hd]
    rw [he] at Hcall
    have HF := Lib.hid (chk_parts hk)
    have hn16 : (n : Int) ≤ 1600 := by have := HF.out.1; have := H.out.1; omega
    have hfin : (ap id (units l) s.data.toList).length ≤ 500 := by rw [ap_length id _ _ hn]; exact (chk_parts hk).2.2.2.2.1
    obtain ⟨R, hR⟩ : ∃ R, ap id (units l) s.data.toList = R := ⟨_, rfl⟩
    rw [hR] at hfin ⊢
    have Hfin := Lib.hid hfin
    have hst : ([] : List UInt8) ++ ap id (units l) s.data.toList = R ∧ nI (units l) = s.data.toList.length := ⟨hR, hn⟩
    clear hfin hR
    have Hst := Lib.hid hst
    clear hk hn hd hst he
    go_enter Try.func47, Try.ntmps47
    go_wp2_with fail
    refine (Hcall.out _ H.out hB).mono ?_
    rintro e w1 ⟨rfl, hb1⟩
    have hbb := hb1.alloc hb1.size (.cells #[.pointer none, .slice none 0 0] 147)
    have HBd := Lib.hid (Bd.fresh_ w1 (B := w.heap.size) hb1.size)
    have hsz := hb1.size
    clear hb1
    go_wp2_with fail
    obtain ⟨gb, hgb⟩ : ∃ g, g = w1.heap.size := ⟨_, rfl⟩
    rw [← hgb] at HBd ⊢
    clear hgb
    go_loopw [1, 9, 19] (fun sv pv i wr => ∃ (k : Nat) (acc : List UInt8) (r : ByteArray), k ≤ n ∧ i = .int .i64 k ∧ sv = .string r ∧ r.size ≤ 500 ∧ Hid (Bd wr w.heap.size gb acc) ∧ Hid (acc ++ ap id (units (l.drop k)) r.data.toList = R ∧ nI (units (l.drop k)) = r.data.toList.length) ∧ Below w.heap.size w wr) (fun _ _ i _ => n - (intOf i).toNat)
    case atStart => exact ⟨0, [], s, by omega, rfl, rfl, h5, HBd, Lib.hid (by rw [List.drop_zero]; exact Hst.out), hbb⟩
    case round =>
      obtain ⟨k, acc, r, hk, rfl, rfl, hr5, hbd, hst, hbw⟩ := hrel
      have Hgne : Hid (wr.heap.size ≠ gb) := Lib.hid (by rcases hbd.out with ⟨_, v, hh, _⟩ | ⟨_, v, hh, _⟩ <;> exact Nat.ne_of_gt (Blk.lt (t := 147) hh))
      have hacc : acc.length ≤ 500 := by
        have h1 := Hfin.out
        rw [← hst.out.1, List.length_append] at h1
        omega
      by_cases hlt : k < n
      · have hkl : k < l.length := by have := H.out.1; omega
        obtain ⟨g, o, rfl, hg, c0, c1, c2⟩ := (H.out.below (hbw.mono hB)).at_ k hlt
        have hbd2 := fit_bounds _ (HF.out.2.2.2.2.2 l[k] (List.getElem_mem hkl))
        have hdr : l.drop k = l[k] :: l.drop (k + 1) := List.drop_eq_getElem_cons hkl
        rw [hdr] at hst
        obtain ⟨p, hp⟩ : ∃ p, p = l[k] := ⟨_, rfl⟩
        rw [← hp] at hbd2 hst c0 c1 c2
        clear hp hdr
        obtain ⟨kd, m, t⟩ := p
        simp only at hbd2 c0 c1 c2
        have hk0 : (0 : Int) ≤ (k : Int) := by omega
        have hkn : (k : Int) < (n : Int) := by omega
        have hgl : g < wr.heap.size := by have := hbw.size; omega
        have hw1 := hbw.alloc hbw.size (.cells #[.int .i64 kd, .int .i64 m, .string t] 81)
        have hbd3 := Lib.hid (hbd.out.alloc (.cells #[.int .i64 kd, .int .i64 m, .string t] 81))
        have hpb := Blk.new wr 81 #[.int .i64 kd, .int .i64 m, .string t]
        have Hpb := Lib.hid hpb
        clear hpb
        rcases hbd2 with ⟨rfl | rfl, h1, h2, rfl⟩ | ⟨rfl, rfl, h1, h2⟩
        · obtain ⟨z, rfl⟩ := Int.eq_ofNat_of_zero_le (show 0 ≤ m by omega)
          obtain ⟨q1, q2, q3⟩ := do_step_keep hst.out.1 hst.out.2
          have hzr : (z : Int) ≤ (r.size : Int) := by have : r.data.toList.length = r.size := rfl; omega
          have hz0 : (0 : Int) ≤ (z : Int) := by omega
          have hzt : ((z : Int)).toNat = z := by omega
          have e1 : (r.extract 0 z).data.toList = r.data.toList.take z := by rw [bs_extract]; simp
          have e2 : (r.extract z r.size).data.toList = r.data.toList.drop z := by rw [bs_extract, ← bs_len, List.take_length]
          have hs2 : (r.extract z r.size).size ≤ 500 := by rw [← bs_len, e2, List.length_drop, bs_len]; omega
          have hs1 : (r.extract 0 z).size ≤ 500 := by rw [← bs_len, e1, List.length_take, bs_len]; omega
          have Hq : Hid ((acc ++ (r.extract 0 z).data.toList) ++ ap id (units (l.drop (k + 1))) (r.extract z r.size).data.toList = R ∧ nI (units (l.drop (k + 1))) = (r.extract z r.size).data.toList.length) := Lib.hid ⟨by rw [e1, e2]; exact q1, by rw [e2]; exact q2⟩
          clear q1 q2 q3 e1 e2 hst
          go_wp2_with fail
          refine (bwrite_any _ gb acc _ _ hbd3.out (by omega) hw1.size).mono ?_
          rintro e w2 ⟨rfl, hbd4, hb2, hbk2⟩
          have hw2 := hw1.trans hb2
          have Hbd4 := Lib.hid hbd4
          have hp2 := hbk2 _ _ _ Hpb.out (by decide) Hgne.out
          have d1 := hp2.cell 1
          have l2 := hp2.lt
          clear hbd4 hb2 hbk2 hp2 hbd3 Hpb hbd
          go_wp2_with fail
          go_roundw
          case rel => exact ⟨k + 1, _, _, by omega, by go_num, rfl, hs2, Hbd4, Hq, hw2⟩
          case measure => simp [intOf]; omega
        · obtain ⟨z, rfl⟩ := Int.eq_ofNat_of_zero_le (show 0 ≤ m by omega)
          obtain ⟨q1, q2, q3⟩ := do_step_cut hst.out.1 hst.out.2
          have hzr : (z : Int) ≤ (r.size : Int) := by have : r.data.toList.length = r.size := rfl; omega
          have hz0 : (0 : Int) ≤ (z : Int) := by omega
          have hzt : ((z : Int)).toNat = z := by omega
          have e2 : (r.extract z r.size).data.toList = r.data.toList.drop z := by rw [bs_extract, ← bs_len, List.take_length]
          have hs2 : (r.extract z r.size).size ≤ 500 := by rw [← bs_len, e2, List.length_drop, bs_len]; omega
          have Hq : Hid (acc ++ ap id (units (l.drop (k + 1))) (r.extract z r.size).data.toList = R ∧ nI (units (l.drop (k + 1))) = (r.extract z r.size).data.toList.length) := Lib.hid ⟨by rw [e2]; exact q1, by rw [e2]; exact q2⟩
          clear q1 q2 q3 e2 hst Hpb hbd
          go_wp2_with fail
          go_roundw
          case rel => exact ⟨k + 1, _, _, by omega, by go_num, rfl, hs2, hbd3, Hq, hw1⟩
          case measure => simp [intOf]; omega
        · have hq := do_step_put hst.out.1 hst.out.2
          have Hq := Lib.hid hq
          clear hq hst Hpb hbd
          go_wp2_with fail
          refine (bwrite_any _ gb acc _ _ hbd3.out (by omega) hw1.size).mono ?_
          rintro e w2 ⟨rfl, hbd4, hb2, hbk2⟩
          have hw2 := hw1.trans hb2
          have Hbd4 := Lib.hid hbd4
          clear hbd4 hb2 hbk2 hbd3
          go_wp2_with fail
          go_roundw
          case rel => exact ⟨k + 1, _, _, by omega, by go_num, rfl, hr5, Hbd4, Hq, hw2⟩
          case measure => simp [intOf]; omega
      · have hR : acc = R := by
          have h1 := hst.out
          rw [List.drop_eq_nil_of_le (by have := H.out.1; omega)] at h1
          have h2 : r.data.toList = [] := List.eq_nil_of_length_eq_zero (by rw [← h1.2]; rfl)
          rw [h2] at h1
          simpa [units, ap] using h1.1
        subst hR
        go_wp2_with fail
        refine (bstring_any _ gb acc _ hbd.out hbw.size).mono ?_
        rintro e w2 ⟨rfl, hb2⟩
        have hw2 := hbw.trans hb2
        go_wp2_with fail
        go_ret2
        exact ⟨rfl, hw2⟩
  · rw [do_err he]
    have hne : ((doE l s) != 0) = true := by simpa using he
    generalize doE l s = E at *
    clear he
    go_enter Try.func47, Try.ntmps47
    go_wp2_with fail
    refine (Hcall.out _ H.out hB).mono ?_
    rintro e w1 ⟨rfl, hb1⟩
    go_wp2_with fail
    go_ret2
    exact ⟨rfl, hb1⟩
end Go.Proofs.Ytmnnaemcjmiplaa
namespace Go.Proofs.Ytmnnaemcjmiplaa
set_option linter.unusedVariables false
set_option linter.unusedSimpArgs false

/-- a revision: whose, its number, what it does -/
abbrev Rv := Int × Int × List Pt
def oneE (r : Rv) : Int := if r.1 < 0 ∨ 7 < r.1 ∨ r.2.1 < 0 ∨ 2147483647 < r.2.1 then 1 else chk r.2.2
def txr : ByteArray → List Rv → Int
  | _, [] => 0
  | s, r :: l => if oneE r ≠ 0 then oneE r else if doE r.2.2 s ≠ 0 then doE r.2.2 s else txr (doS r.2.2 s) l
def txE (base : ByteArray) (l : List Rv) : Int := if 500 < base.size ∨ 64 < l.length then 2 else txr base l
def txs : ByteArray → List Rv → List ByteArray
  | s, [] => [s]
  | s, r :: l => s :: txs (doS r.2.2 s) l
/-- the text behind k revisions -/
def txt : ByteArray → List Rv → Nat → ByteArray
  | s, _, 0 => s
  | s, [], _ + 1 => s
  | s, r :: l, k + 1 => txt (doS r.2.2 s) l k
theorem txs_len : ∀ (l : List Rv) (s : ByteArray), (txs s l).length = l.length + 1
  | [], s => rfl
  | r :: l, s => by simp only [txs, List.length_cons]; rw [txs_len l]
theorem txs_at : ∀ (l : List Rv) (s : ByteArray) (k : Nat), k ≤ l.length → (txs s l)[k]? = some (txt s l k)
  | [], s, 0, _ => rfl
  | r :: l, s, 0, _ => rfl
  | r :: l, s, k + 1, h => by
    simp only [txs, txt, List.getElem?_cons_succ]
    exact txs_at l _ k (by simpa using h)
theorem txr_take : ∀ (l : List Rv) (s : ByteArray) (k : Nat), txr s l = 0 → txr s (l.take k) = 0
  | [], s, k, h => by simp [txr]
  | r :: l, s, 0, h => by simp [txr]
  | r :: l, s, k + 1, h => by
    simp only [txr] at h
    split at h
    · omega
    · split at h
      · omega
      · rename_i h1 h2
        simp only [List.take_succ_cons, txr]
        rw [if_neg h1, if_neg h2]
        exact txr_take l _ k h
theorem txr_drop : ∀ (l : List Rv) (s : ByteArray) (k : Nat), txr s l = 0 → txr (txt s l k) (l.drop k) = 0
  | [], s, k, h => by simp [txr]
  | r :: l, s, 0, h => h
  | r :: l, s, k + 1, h => by
    simp only [txr] at h
    split at h
    · omega
    · split at h
      · omega
      · simp only [List.drop_succ_cons, txt]
        exact txr_drop l _ k h
theorem txt_size : ∀ (l : List Rv) (s : ByteArray) (k : Nat), s.size ≤ 500 → (txt s l k).size ≤ 500
  | [], s, 0, h => h
  | [], s, k + 1, h => h
  | r :: l, s, 0, h => h
  | r :: l, s, k + 1, h => txt_size l _ k (do_size_any _ _)
theorem txt_take : ∀ (l : List Rv) (s : ByteArray) (k i : Nat), i ≤ k → txt s (l.take k) i = txt s l i
  | [], s, k, i, _ => by simp
  | r :: l, s, k, 0, _ => by cases k <;> simp [txt]
  | r :: l, s, 0, i + 1, h => by omega
  | r :: l, s, k + 1, i + 1, h => by
    simp only [List.take_succ_cons, txt]
    exact txt_take l _ k i (by omega)
theorem txt_drop : ∀ (l : List Rv) (s : ByteArray) (k i : Nat), txt (txt s l k) (l.drop k) i = txt s l (k + i)
  | [], s, 0, i => by simp [txt]
  | [], s, k + 1, i => by
    simp only [txt, List.drop_nil]
    cases i <;> simp [txt]
  | r :: l, s, 0, i => by simp [txt]
  | r :: l, s, k + 1, i => by
    have := txt_drop l (doS r.2.2 s) k i
    simp only [List.drop_succ_cons, txt]
    rw [this, show k + 1 + i = (k + i) + 1 by omega]
    rfl
theorem txE_parts {base : ByteArray} {l : List Rv} (h : txE base l = 0) : base.size ≤ 500 ∧ l.length ≤ 64 ∧ txr base l = 0 := by
  unfold txE at h
  split at h
  · omega
  · rename_i h1
    exact ⟨by omega, by omega, h⟩
theorem txE_zero {base : ByteArray} {l : List Rv} (h1 : base.size ≤ 500) (h2 : l.length ≤ 64) (h : txr base l = 0) : txE base l = 0 := by
  unfold txE; rw [if_neg (by omega)]; exact h
theorem txE_take {base : ByteArray} {l : List Rv} (h : txE base l = 0) (k : Nat) : txE base (l.take k) = 0 := by
  obtain ⟨h1, h2, h3⟩ := txE_parts h
  exact txE_zero h1 (by rw [List.length_take]; omega) (txr_take l base k h3)
theorem txE_drop {base : ByteArray} {l : List Rv} (h : txE base l = 0) (k : Nat) : txE (txt base l k) (l.drop k) = 0 := by
  obtain ⟨h1, h2, h3⟩ := txE_parts h
  exact txE_zero (txt_size l base k h1) (by rw [List.length_drop]; omega) (txr_drop l base k h3)
/-- what has been told of a history, and what is still to do -/
theorem txr_step {s : ByteArray} {r : Rv} {l : List Rv} {E : Int} (h : txr s (r :: l) = E) :
    (oneE r ≠ 0 → E = oneE r) ∧ (oneE r = 0 → doE r.2.2 s ≠ 0 → E = doE r.2.2 s) ∧ (oneE r = 0 → doE r.2.2 s = 0 → txr (doS r.2.2 s) l = E) := by
  simp only [txr] at h
  refine ⟨fun h1 => ?_, fun h1 h2 => ?_, fun h1 h2 => ?_⟩
  · rw [if_pos h1] at h; exact h.symm
  · rw [if_neg (by omega), if_pos h2] at h; exact h.symm
  · rw [if_neg (by omega), if_neg (by omega)] at h; exact h
theorem one_good {r : Rv} (h : oneE r = 0) : chk r.2.2 = 0 := by
  unfold oneE at h
  split at h
  · omega
  · exact h
end Go.Proofs.Ytmnnaemcjmiplaa
