/- Laws on deltas as units: right ones, compositions, turns; plain lists, no program. Contracts of slices.Equal over parts, scrivref.Same, scrivref.In, scrivref.All, scrivkeep.All, scrivkeep.put. scrivkeep's helpers over room: roomy. -/
import Derived.Test.YtfncpcmaplhojaaMTierOwn5
import Derived.Test.YtfncpcmaplhojaaMTierOwn4
import Derived.Deep.DeepAppendRoom
import Derived.Laws.AppendOwnNone
namespace Go.Proofs.Ytfncpcmaplhojaa
set_option linter.unusedVariables false
set_option linter.unusedSimpArgs false

theorem lenP_sizes : ∀ (l : List Pt), Fine l → ∀ p ∈ l, ((p.1 = 1 ∨ p.1 = 3) → p.2.1 ≤ nI (units l)) ∧ (p.1 = 2 → p.2.2.size ≤ nO (units l))
  | [], _, p, hp => by simp at hp
  | q :: l, h, p, hp => by
    have hq := h q (by simp)
    rw [units_cons, nI_append, nO_append]
    rcases List.mem_cons.1 hp with rfl | hp
    · have h1 := nI_up p hq
      have h2 := nO_up p hq
      refine ⟨fun hk => ?_, fun hk => ?_⟩
      · rw [if_pos hk] at h1; omega
      · rw [if_neg (by omega), if_neg (by omega)] at h2; omega
    · have := lenP_sizes l (fun x hx => h x (by simp [hx])) p hp
      exact ⟨fun hk => by have := this.1 hk; omega, fun hk => by have := this.2 hk; omega⟩
/-- of units in their form, not too many, a right delta is made -/
theorem good_grp {us : List U} (hc : Cn us) (hi : nI us ≤ 500) (ho : nO us ≤ 500) : chk (grp us) = 0 := by
  have hf := fine_grp us
  have hu := units_grp us
  have hl : (grp us).length ≤ us.length := by
    have hadd : ∀ (u : U) (l : List Pt), (addU u l).length ≤ l.length + 1 := by
      intro u l
      rcases u with _ | _ | x <;> rcases l with _ | ⟨p, l⟩ <;> simp only [addU] <;> (try split) <;> simp
    have : ∀ us : List U, (grp us).length ≤ us.length := by
      intro us
      induction us with
      | nil => exact Nat.le_refl _
      | cons u us ih => have := hadd u (grp us); simp only [grp, List.length_cons]; omega
    exact this us
  have hs := len_sizes us
  have h1 := nI_units (grp us) hf
  have h2 := nO_units (grp us) hf
  rw [hu] at h1 h2
  have hfit : ∀ p ∈ grp us, fitE p = 0 := by
    intro p hp
    have hb := lenP_sizes (grp us) hf p hp
    rw [hu] at hb
    refine (fitE_zero p).2 ⟨hf p hp, ?_, ?_⟩
    · rcases hf p hp with ⟨h3, _, _⟩ | ⟨_, h4, _⟩
      · have := hb.1 h3; omega
      · omega
    · rcases hf p hp with ⟨_, _, h5⟩ | ⟨h3, _, _⟩
      · rw [h5]; exact Nat.zero_le _
      · have := hb.2 h3; omega
  have h0 : chkL 0 (grp us) = 0 := (chkL_zero _ 0).2 ⟨by
    rcases us with _ | ⟨u, us⟩
    · exact .inr rfl
    · left
      rw [hk_grp]
      rcases u with _ | _ | b <;> simp [kU, one], by omega, adj_grp us hc, hfit⟩
  unfold chk
  rw [if_neg (by omega), if_neg (by omega), if_neg (by omega)]
theorem good_cz {us : List U} (hi : nI us ≤ 500) (ho : nO us ≤ 500) : chk (grp (cz us)) = 0 :=
  good_grp (cn_cz us) (by rw [nI_cz]; exact hi) (by rw [nO_cz]; exact ho)
theorem chk_parts {l : List Pt} (h : chk l = 0) : l.length ≤ 1600 ∧ Adj l ∧ Fine l ∧ nI (units l) ≤ 500 ∧ nO (units l) ≤ 500 ∧ ∀ p ∈ l, fitE p = 0 := by
  unfold chk at h
  split at h
  · omega
  · split at h
    · omega
    · split at h
      · omega
      · rename_i h1 h2 h3
        obtain ⟨_, _, ha, hf⟩ := (chkL_zero l 0).1 (show chkL 0 l = 0 by omega)
        have hfi : Fine l := fun p hp => ((fitE_zero p).1 (hf p hp)).1
        have h4 := nI_units l hfi
        have h5 := nO_units l hfi
        exact ⟨by omega, ha, hfi, by omega, by omega, hf⟩
theorem cn_good {l : List Pt} (h : chk l = 0) : Cn (units l) := cn_units l (chk_parts h).2.1 (chk_parts h).2.2.1
theorem cz_good {l : List Pt} (h : chk l = 0) : cz (units l) = units l := cz_of_cn _ (cn_good h)
theorem grp_good {l : List Pt} (h : chk l = 0) : grp (units l) = l := grp_units l (chk_parts h).2.1 (chk_parts h).2.2.1
theorem grp_cz_good {l : List Pt} (h : chk l = 0) : grp (cz (units l)) = l := by rw [cz_good h, grp_good h]
theorem good_of_cz {l : List Pt} (h : chk l = 0) {us : List U} (e : cz us = units l) : grp (cz us) = l := by rw [e, grp_good h]

theorem ap_keeps {α : Type} (f : UInt8 → α) : ∀ (s : List α), ap f (List.replicate s.length none) s = s
  | [] => rfl
  | x :: s => by rw [List.length_cons, List.replicate_succ]; simp only [ap]; rw [ap_keeps f s]
theorem nI_keeps (n : Nat) : nI (List.replicate n none) = n := by
  induction n with
  | zero => rfl
  | succ n ih => rw [List.replicate_succ]; simp only [nI]; rw [ih]
theorem nO_keeps (n : Nat) : nO (List.replicate n none) = n := by
  induction n with
  | zero => rfl
  | succ n ih => rw [List.replicate_succ]; simp only [nO]; rw [ih]
theorem nI_cuts (n : Nat) : nI (List.replicate n (some none)) = n := by
  induction n with
  | zero => rfl
  | succ n ih => rw [List.replicate_succ]; simp only [nI]; rw [ih]
theorem nO_cuts (n : Nat) : nO (List.replicate n (some none)) = 0 := by
  induction n with
  | zero => rfl
  | succ n ih => rw [List.replicate_succ]; simp only [nO]; rw [ih]
theorem nI_pu (s : ByteArray) : nI (pu s) = 0 := by
  unfold pu
  induction s.data.toList with
  | nil => rfl
  | cons x l ih => simpa [nI] using ih
theorem nO_pu (s : ByteArray) : nO (pu s) = s.size := by
  have : ∀ l : List UInt8, nO (l.map (fun b => (some (some b) : U))) = l.length := by
    intro l
    induction l with
    | nil => rfl
    | cons x l ih => simp [nO, ih]
  unfold pu
  rw [this]; rfl

/-- three as one -/
theorem comp_assoc {a b c : List U} (h1 : nO a = nI b) (h2 : nO b = nI c) : cz (cmp (cz (cmp a b)) c) = cz (cmp a (cz (cmp b c))) := by
  have e1 := nI_cmp a b h1
  have e2 := nO_cmp a b h1
  have e3 := nI_cmp b c h2
  have hL : nO (cz (cmp a b)) = nI c := by rw [nO_cz]; omega
  have hR : nO a = nI (cz (cmp b c)) := by rw [nI_cz]; omega
  refine cz_of_ap (by rw [nI_cmp _ _ hL, nI_cmp _ _ hR, nI_cz]; omega) fun s hs => ?_
  rw [nI_cmp _ _ hL, nI_cz] at hs
  have hsa : nI a = s.length := by omega
  rw [ap_cmp _ _ _ hL s (by rw [nI_cz]; omega), ap_cz _ _ _ (by omega), ap_cmp _ _ _ h1 s hsa, ap_cmp _ _ _ hR s hsa, ap_cz _ _ _ (by rw [ap_length _ _ _ hsa]; omega), ap_cmp _ _ _ h2 _ (by rw [ap_length _ _ _ hsa]; omega)]
theorem comp_left {a : List U} {n : Nat} (h : nI a = n) : cz (cmp (List.replicate n none) a) = cz a := by
  have h0 : nO (List.replicate n none) = nI a := by rw [nO_keeps, h]
  refine cz_of_ap (by rw [nI_cmp _ _ h0, nI_keeps, h]) fun s hs => ?_
  rw [nI_cmp _ _ h0, nI_keeps] at hs
  rw [ap_cmp _ _ _ h0 s (by rw [nI_keeps]; omega)]
  subst hs
  rw [ap_keeps]
theorem comp_right {a : List U} {n : Nat} (h : nO a = n) : cz (cmp a (List.replicate n none)) = cz a := by
  have h0 : nO a = nI (List.replicate n none) := by rw [nI_keeps, h]
  refine cz_of_ap (by rw [nI_cmp _ _ h0]) fun s hs => ?_
  rw [nI_cmp _ _ h0] at hs
  rw [ap_cmp _ _ _ h0 s (by omega)]
  have e : (ap (.inr : UInt8 → Nat ⊕ UInt8) a s).length = n := by rw [ap_length _ _ _ (by omega), h]
  subst e
  rw [ap_keeps]

/-- the other way -/
def tn : List U → List UInt8 → List U
  | none :: us, _ :: s => none :: tn us s
  | some none :: us, x :: s => some (some x) :: tn us s
  | some (some _) :: us, s => some none :: tn us s
  | _, _ => []
theorem nI_tn : ∀ (us : List U) (s : List UInt8), nI us = s.length → nI (tn us s) = nO us
  | [], s, _ => by simp [tn, nI, nO]
  | none :: us, [], h => by simp [nI] at h
  | none :: us, x :: s, h => by simp [tn, nI, nO, nI_tn us s (by simpa [nI] using h)]
  | some none :: us, [], h => by simp [nI] at h
  | some none :: us, x :: s, h => by simp [tn, nI, nO, nI_tn us s (by simpa [nI] using h)]
  | some (some b) :: us, s, h => by simp [tn, nI, nO, nI_tn us s (by simpa [nI] using h)]
theorem nO_tn : ∀ (us : List U) (s : List UInt8), nI us = s.length → nO (tn us s) = nI us
  | [], s, _ => by simp [tn, nI, nO]
  | none :: us, [], h => by simp [nI] at h
  | none :: us, x :: s, h => by simp [tn, nI, nO, nO_tn us s (by simpa [nI] using h)]
  | some none :: us, [], h => by simp [nI] at h
  | some none :: us, x :: s, h => by simp [tn, nI, nO, nO_tn us s (by simpa [nI] using h)]
  | some (some b) :: us, s, h => by simp [tn, nI, nO, nO_tn us s (by simpa [nI] using h)]
theorem ap_tn : ∀ (us : List U) (s : List UInt8), nI us = s.length → ap id (tn us s) (ap id us s) = s
  | [], [], _ => by simp [tn, ap]
  | [], x :: s, h => by simp [nI] at h
  | none :: us, [], h => by simp [nI] at h
  | none :: us, x :: s, h => by simp [tn, ap, ap_tn us s (by simpa [nI] using h)]
  | some none :: us, [], h => by simp [nI] at h
  | some none :: us, x :: s, h => by simp [tn, ap, ap_tn us s (by simpa [nI] using h)]
  | some (some b) :: us, s, h => by simp [tn, ap, ap_tn us s (by simpa [nI] using h)]
theorem tn_tn : ∀ (us : List U) (s : List UInt8), nI us = s.length → tn (tn us s) (ap id us s) = us
  | [], [], _ => by simp [tn, ap]
  | [], x :: s, h => by simp [nI] at h
  | none :: us, [], h => by simp [nI] at h
  | none :: us, x :: s, h => by simp [tn, ap, tn_tn us s (by simpa [nI] using h)]
  | some none :: us, [], h => by simp [nI] at h
  | some none :: us, x :: s, h => by simp [tn, ap, tn_tn us s (by simpa [nI] using h)]
  | some (some b) :: us, s, h => by simp [tn, ap, tn_tn us s (by simpa [nI] using h)]
theorem tn_append : ∀ (us vs : List U) (s t : List UInt8), nI us = s.length → tn (us ++ vs) (s ++ t) = tn us s ++ tn vs t
  | [], vs, [], t, _ => by simp [tn]
  | [], vs, x :: s, t, h => by simp [nI] at h
  | none :: us, vs, [], t, h => by simp [nI] at h
  | none :: us, vs, x :: s, t, h => by simp [tn, tn_append us vs s t (by simpa [nI] using h)]
  | some none :: us, vs, [], t, h => by simp [nI] at h
  | some none :: us, vs, x :: s, t, h => by simp [tn, tn_append us vs s t (by simpa [nI] using h)]
  | some (some b) :: us, vs, s, t, h => by simp [tn, tn_append us vs s t (by simpa [nI] using h)]
theorem tn_insC (y : UInt8) (t : List UInt8) : ∀ v : List U, cz (tn (insC v) (y :: t)) = cz (some (some y) :: tn v t)
  | [] => rfl
  | none :: v => rfl
  | some none :: v => rfl
  | some (some b) :: v => by
    have ih := tn_insC y t v
    have e : tn (insC (some (some b) :: v)) (y :: t) = some none :: tn (insC v) (y :: t) := rfl
    have e2 : tn (some (some b) :: v) t = some none :: tn v t := rfl
    rw [e, e2]
    simp only [cz, insC] at ih ⊢
    rw [ih]
    rfl
theorem tn_cz : ∀ (us : List U) (s : List UInt8), nI us = s.length → cz (tn (cz us) s) = cz (tn us s)
  | [], s, _ => rfl
  | none :: us, [], h => by simp [nI] at h
  | none :: us, x :: s, h => by simp [cz, tn, tn_cz us s (by simpa [nI] using h)]
  | some none :: us, [], h => by simp [nI] at h
  | some none :: us, x :: s, h => by
    have ih := tn_cz us s (by simpa [nI] using h)
    simp only [cz]
    rw [tn_insC]
    simp only [cz, tn]
    rw [ih]
  | some (some b) :: us, s, h => by simp [cz, tn, tn_cz us s (by simpa [nI] using h)]
theorem tn_twice (us : List U) (s : List UInt8) (h : nI us = s.length) : cz (tn (cz (tn us s)) (ap id us s)) = cz us := by
  rw [tn_cz _ _ (by rw [nI_tn us s h, ap_length id us s h]), tn_tn us s h]
theorem ap_tn_cmp {α : Type} (f : UInt8 → α) (a b : List U) (h : nO a = nI b) : ∀ (s : List UInt8) (z : List α), nI a = s.length → z.length = nO b → ap f (tn (cmp a b) s) z = ap f (tn a s) (ap f (tn b (ap id a s)) z) := by
  refine cmp_ind (M := fun a b => ∀ (s : List UInt8) (z : List α), nI a = s.length → z.length = nO b → ap f (tn (cmp a b) s) z = ap f (tn a s) (ap f (tn b (ap id a s)) z)) ?_ ?_ ?_ ?_ ?_ ?_ ?_ _ a b (Nat.le_refl _) h
  · intro s z hs hz
    obtain rfl : s = [] := List.eq_nil_of_length_eq_zero (by simpa [nI] using hs.symm)
    obtain rfl : z = [] := List.eq_nil_of_length_eq_zero (by simpa [nO] using hz)
    rfl
  · intro xs ys h ih s z hs hz
    obtain ⟨x, s, rfl⟩ : ∃ x s', s = x :: s' := by rcases s with _ | ⟨x, s⟩; simp [nI] at hs; exact ⟨x, s, rfl⟩
    simp [cmp, tn, ap, ih s z (by simpa [nI] using hs) hz]
  · intro xs b ys hx h ih s z hs hz
    obtain ⟨y, z, rfl⟩ : ∃ x s', z = x :: s' := by rcases z with _ | ⟨x, s⟩; simp [nO] at hz; exact ⟨x, s, rfl⟩
    rw [cmp_put _ _ _ hx]
    simp [tn, ap, ih s z hs (by simpa [nO] using hz)]
  · intro xs ys h ih s z hs hz
    obtain ⟨x, s, rfl⟩ : ∃ x s', s = x :: s' := by rcases s with _ | ⟨x, s⟩; simp [nI] at hs; exact ⟨x, s, rfl⟩
    obtain ⟨y, z, rfl⟩ : ∃ x s', z = x :: s' := by rcases z with _ | ⟨x, s⟩; simp [nO] at hz; exact ⟨x, s, rfl⟩
    simp [cmp, lead, rst, tn, ap, ih s z (by simpa [nI] using hs) (by simpa [nO] using hz)]
  · intro xs ys h ih s z hs hz
    obtain ⟨x, s, rfl⟩ : ∃ x s', s = x :: s' := by rcases s with _ | ⟨x, s⟩; simp [nI] at hs; exact ⟨x, s, rfl⟩
    simp [cmp, lead, rst, tn, ap, ih s z (by simpa [nI] using hs) (by simpa [nO] using hz)]
  · intro b xs ys h ih s z hs hz
    obtain ⟨y, z, rfl⟩ : ∃ x s', z = x :: s' := by rcases z with _ | ⟨x, s⟩; simp [nO] at hz; exact ⟨x, s, rfl⟩
    simp [cmp, lead, rst, tn, ap, ih s z (by simpa [nI] using hs) (by simpa [nO] using hz)]
  · intro b xs ys h ih s z hs hz
    simp [cmp, lead, rst, tn, ap, ih s z (by simpa [nI] using hs) (by simpa [nO] using hz)]
theorem turn_parts {a b : List U} (h : nO a = nI b) (s : List UInt8) (hs : nI a = s.length) : cz (tn (cz (cmp a b)) s) = cz (cmp (cz (tn b (ap id a s))) (cz (tn a s))) := by
  have hl : (ap id a s).length = nO a := ap_length id a s hs
  have hb : nI b = (ap id a s).length := by omega
  have hc := nI_cmp a b h
  rw [tn_cz _ _ (by omega)]
  have hm : nO (cz (tn b (ap id a s))) = nI (cz (tn a s)) := by rw [nO_cz, nI_cz, nO_tn _ _ hb, nI_tn _ _ hs]; omega
  refine cz_of_ap (by rw [nI_tn _ _ (by omega), nO_cmp _ _ h, nI_cmp _ _ hm, nI_cz, nI_tn _ _ hb]) fun z hz => ?_
  rw [nI_tn _ _ (by omega), nO_cmp _ _ h] at hz
  rw [ap_tn_cmp _ a b h s z hs hz, ap_cmp _ _ _ hm z (by rw [nI_cz, nI_tn _ _ hb]; omega), ap_cz _ _ z (by rw [nI_tn _ _ hb]; omega), ap_cz]
  rw [nI_tn _ _ hs, ap_length _ _ _ (by rw [nI_tn _ _ hb]; omega), nO_tn _ _ hb]
  omega
/-- two, beside each other -/
theorem comp_beside {a b c d : List U} (h1 : nO a = nI b) (h2 : nO c = nI d) : cz (cz (cmp a b) ++ cz (cmp c d)) = cz (cmp (cz (a ++ c)) (cz (b ++ d))) := by
  have h3 : nO (cz (a ++ c)) = nI (cz (b ++ d)) := by rw [nO_cz, nI_cz, nO_append, nI_append]; omega
  have e1 := nI_cmp a b h1
  have e2 := nI_cmp c d h2
  refine cz_of_ap (by rw [nI_cmp _ _ h3, nI_append, nI_cz, nI_cz, nI_cz, nI_append]; omega) fun s hs => ?_
  rw [nI_append, nI_cz, nI_cz] at hs
  obtain ⟨p, q, rfl, hp⟩ : ∃ p q : List (Nat ⊕ UInt8), s = p ++ q ∧ p.length = nI a := ⟨s.take (nI a), s.drop (nI a), (List.take_append_drop _ _).symm, by rw [List.length_take]; omega⟩
  rw [List.length_append] at hs
  rw [ap_append _ _ _ _ _ (by rw [nI_cz]; omega), ap_cz _ _ p (by omega), ap_cz _ _ q (by omega), ap_cmp _ _ _ h1 p (by omega), ap_cmp _ _ _ h2 q (by omega)]
  rw [ap_cmp _ _ _ h3 _ (by rw [nI_cz, nI_append, List.length_append]; omega), ap_cz _ _ (p ++ q) (by rw [nI_append, List.length_append]; omega), ap_append _ _ _ _ _ (by omega), ap_cz, ap_append]
  · rw [ap_length _ _ _ (by omega)]; omega
  · rw [nI_append, List.length_append, ap_length _ _ _ (by omega), ap_length _ _ _ (by omega)]; omega
theorem turn_beside {a b : List U} (s t : List UInt8) (hs : nI a = s.length) (ht : nI b = t.length) : cz (cz (tn a s) ++ cz (tn b t)) = cz (tn (cz (a ++ b)) (s ++ t)) := by
  rw [tn_cz _ _ (by rw [nI_append, List.length_append]; omega), tn_append _ _ _ _ hs, cz_app_cz, cz_cz_app]
/-- one and what is left of the other -/
theorem meet_same {a b : List U} (h : nI a = nI b) : cz (cmp a (cz (mt a b).2)) = cz (cmp b (cz (mt a b).1)) := by
  obtain ⟨h1, h2⟩ := nI_mt a b h
  have hL : nO a = nI (cz (mt a b).2) := by rw [nI_cz]; omega
  have hR : nO b = nI (cz (mt a b).1) := by rw [nI_cz]; omega
  refine cz_of_ap (by rw [nI_cmp _ _ hL, nI_cmp _ _ hR, h]) fun s hs => ?_
  rw [nI_cmp _ _ hL] at hs
  rw [ap_cmp _ _ _ hL s (by omega), ap_cmp _ _ _ hR s (by omega), ap_cz, ap_cz, ap_mt _ a b h s (by omega)]
  · rw [ap_length _ _ _ (by omega)]; omega
  · rw [ap_length _ _ _ (by omega)]; omega
theorem mt_keeps : ∀ a : List U, mt a (List.replicate (nI a) none) = (a, List.replicate (nO a) none)
  | [] => rfl
  | none :: a => by simp only [nI, nO, List.replicate_succ, mt, lead, rst, List.map_nil, List.nil_append]; rw [mt_keeps a]
  | some none :: a => by simp only [nI, nO, List.replicate_succ, mt, lead, rst, List.map_nil, List.nil_append]; rw [mt_keeps a]
  | some (some b) :: a => by simp only [nI, nO, List.replicate_succ, mt]; rw [mt_keeps a]
theorem mt_keeps_left : ∀ a : List U, mt (List.replicate (nI a) none) a = (List.replicate (nO a) none, a)
  | [] => rfl
  | none :: a => by simp only [nI, nO, List.replicate_succ, mt, lead, rst, List.map_nil, List.nil_append]; rw [mt_keeps_left a]
  | some none :: a => by simp only [nI, nO, List.replicate_succ, mt, lead, rst, List.map_nil, List.nil_append]; rw [mt_keeps_left a]
  | some (some b) :: a => by
    have h : ∀ c r, (List.replicate (nI a) none : List U) ≠ some (some c) :: r := by
      intro c r
      cases nI a <;> simp [List.replicate_succ]
    simp only [nI, nO, List.replicate_succ]; rw [mt_put _ _ _ h, mt_keeps_left a]
/-- how many bytes are put -/
def nP : List U → Nat
  | [] => 0
  | some (some _) :: r => nP r + 1
  | _ :: r => nP r
theorem nP_mt (a b : List U) (h : nI a = nI b) : nP (mt a b).1 = nP a ∧ nP (mt a b).2 = nP b := by
  refine mt_ind (M := fun a b => nP (mt a b).1 = nP a ∧ nP (mt a b).2 = nP b) ⟨rfl, rfl⟩ ?_ ?_ ?_ ?_ ?_ ?_ _ a b (Nat.le_refl _) h
  · intro b xs ys h ih; simpa [mt, nP] using ih
  · intro xs b ys hx h ih; rw [mt_put _ _ _ hx]; simpa [nP] using ih
  all_goals intro xs ys h ih; simpa [mt, nP, lead, rst] using ih
theorem nP_append (a b : List U) : nP (a ++ b) = nP a + nP b := by
  induction a with
  | nil => simp [nP]
  | cons u a ih => rcases u with _ | _ | x <;> simp [nP, ih] <;> omega
theorem nP_insC (us : List U) : nP (insC us) = nP us := by
  induction us with
  | nil => rfl
  | cons u us ih => rcases u with _ | _ | x <;> simp [insC, nP, ih]
theorem nP_cz (us : List U) : nP (cz us) = nP us := by
  induction us with
  | nil => rfl
  | cons u us ih => rcases u with _ | _ | x <;> simp [cz, nP, ih, nP_insC]
def szP : List Pt → Int
  | [] => 0
  | p :: l => (p.2.2.size : Int) + szP l
theorem nP_up (p : Pt) (h : Shape p) : (nP (up p) : Int) = p.2.2.size := by
  obtain ⟨k, n, t⟩ := p
  have hr (u : U) (hu : nP [u] = 0) (n : Nat) : nP (List.replicate n u) = 0 := by
    induction n with
    | zero => rfl
    | succ n ih => rw [List.replicate_succ, show u :: List.replicate n u = [u] ++ List.replicate n u from rfl, nP_append, ih, hu]
  have hp : ∀ l : List UInt8, nP (l.map (fun b => (some (some b) : U))) = l.length := by
    intro l
    induction l with
    | nil => rfl
    | cons x l ih => simp [nP, ih]
  rcases h with ⟨h1 | h1, _, h3⟩ | ⟨h1, _, _⟩
  · simp only at h1 h3; subst h1; subst h3
    simp only [up, if_true]
    rw [hr _ rfl]; rfl
  · simp only at h1 h3; subst h1; subst h3
    rw [show up ((3, n, emp) : Pt) = List.replicate n.toNat (some none) from rfl, hr _ rfl]; rfl
  · simp only at h1; subst h1
    rw [show up ((2, n, t) : Pt) = t.data.toList.map (fun b => some (some b)) from rfl, hp]; rfl
theorem nP_units : ∀ (l : List Pt), Fine l → (nP (units l) : Int) = szP l
  | [], _ => rfl
  | p :: l, h => by
    have h1 := nP_up p (h p (by simp))
    have h2 := nP_units l fun q hq => h q (by simp [hq])
    rw [units_cons, nP_append]
    simp only [szP]
    omega
/-- a delta that keeps n bytes -/
def allL (n : Int) : List Pt := if n = 0 then [] else [(1, n, emp)]
theorem all_units (n : Nat) : units (allL n) = List.replicate n none := by
  unfold allL
  by_cases h : (n : Int) = 0
  · obtain rfl : n = 0 := by omega
    rfl
  · rw [if_neg h]
    simp [units, up]
theorem all_chk (n : Nat) (h : n ≤ 500) : chk (allL n) = 0 := by
  have e : allL n = grp (List.replicate n none) := by
    unfold allL
    by_cases h0 : (n : Int) = 0
    · rw [if_pos h0, show n = 0 by omega]; rfl
    · rw [if_neg h0]
      have := grp_keeps (n - 1) [] (by simp [grp, hk])
      rw [show n - 1 + 1 = n by omega, List.append_nil] at this
      rw [this, show ((n - 1 : Nat) : Int) + 1 = n by omega]
      rfl
  rw [e]
  refine good_grp ?_ (by rw [nI_keeps]; exact h) (by rw [nO_keeps]; exact h)
  clear h e
  induction n with
  | zero => trivial
  | succ n ih => rw [List.replicate_succ]; exact ih
theorem put_units (s : ByteArray) : units [(2, 0, s)] = pu s := by simp [units, up, pu]
theorem put_chk (s : ByteArray) (h1 : 1 ≤ s.size) (h : s.size ≤ 500) : chk [(2, 0, s)] = 0 := by
  have hf : fitE (2, 0, s) = 0 := (fitE_zero _).2 ⟨.inr ⟨rfl, rfl, h1⟩, (by simp only; omega), h⟩
  have h0 : chkL 0 [(2, 0, s)] = 0 := (chkL_zero _ 0).2 ⟨.inl (by simp [hk]), by simp [hk], trivial, by simp [hf]⟩
  have e1 : szI [((2, 0, s) : Pt)] = 0 := by simp [szI]
  have e2 : szO [((2, 0, s) : Pt)] = s.size := by simp [szO]
  unfold chk
  rw [if_neg (by simp), if_neg (by omega), if_neg (by rw [e1, e2]; omega)]
end Go.Proofs.Ytfncpcmaplhojaa
namespace Go.Proofs.Ytfncpcmaplhojaa
open Go.ChangeShapes Go.WideShapes Go.RowKit
set_option linter.unusedVariables false
set_option linter.unusedSimpArgs false
set_option maxRecDepth 100000
set_option maxHeartbeats 4000000

/-- a slice that a buildSlice has just made of parts -/
theorem RdP.built (w : World) (cs : Array Value) (l : List Pt) (n : Nat) (hn : n = l.length) (hc : cs.toList = pc l) (hm : n ≤ maxLen) (ht : ∀ p ∈ l, p.2.2.size ≤ 140737488351232) :
    RdP (w.alloc (.cells cs 45)) (w.heap.size + 1) (some ⟨w.heap.size, 0, none⟩) n n l := by
  refine ⟨hn, ?_, ht⟩
  rw [← hc]
  exact Rd.built w _ cs (by have := congrArg List.length hc; simp only [Array.length_toList, pc_len] at this; omega) hm
theorem RdP.builtS (w : World) (cs : Array Value) (l : List Pt) (n : Nat) (hn : n = l.length) (hc : cs.toList = pc l) (hm : n ≤ maxLen) (ht : ∀ p ∈ l, p.2.2.size ≤ 140737488351232) :
    RdP (w.alloc (.cells cs 45)) (w.alloc (.cells cs 45)).heap.size (some ⟨w.heap.size, 0, none⟩) n n l := by
  rw [World.size_alloc]; exact RdP.built w cs l n hn hc hm ht
theorem put_any (s : ByteArray) (hs : s.size ≤ 140737488351232) (w : World) :
    Calls Try.prog 19 #[.string s] w fun e w' => ∃ A, e = .returned (.slice A 1 1) ∧ RdP w' w'.heap.size A 1 1 [(2, 0, s)] ∧ Below w.heap.size w w' := by
  have hr := RdP.built w #[.int .i64 2, .int .i64 0, .string s] [(2, 0, s)] 1 rfl rfl (by decide) (by simpa using hs)
  have Hr := Lib.hid hr
  clear hr
  go_enter Try.func19, Try.ntmps19
  go_wp2_with fail
  go_ret
  exact ⟨_, rfl, by simpa using Hr.out, (Below.refl _ _).alloc (Nat.le_refl _) _⟩
theorem same_long (l l' : List Pt) (A A' : Option Addr) (n n' c c' B B' : Nat) (w : World) (h : RdP w B A n c l) (h' : RdP w B' A' n' c' l') (e : n ≠ n') :
    Calls Try.prog 58 #[.slice A n c, .slice A' n' c'] w fun e w' => e = .returned (.bool (decide (l = l'))) ∧ Below w.heap.size w w' := by
  have hne : decide (l = l') = false := by
    rw [decide_eq_false_iff_not]
    rintro rfl
    exact e (h.1.trans h'.1.symm)
  have hb : ((n : Int) == (n' : Int)) = false := by simp; omega
  have h1 := h.le
  have h2 := h'.le
  rw [hne]
  clear h h' hne
  go_enter Try.func58, Try.ntmps58
  go_wp2_with fail
  go_ret
  exact ⟨rfl, Below.refl _ _⟩
theorem same_same (l l' : List Pt) (A A' : Option Addr) (n c c' B B' : Nat) (w : World) (h : RdP w B A n c l) (h' : RdP w B' A' n c' l') :
    Calls Try.prog 58 #[.slice A n c, .slice A' n c'] w fun e w' => e = .returned (.bool (decide (l = l'))) ∧ Below w.heap.size w w' := by
  have hle := h.le
  have H := Lib.hid h
  have H' := Lib.hid h'
  obtain ⟨R, hR⟩ : ∃ R, decide (l = l') = R := ⟨_, rfl⟩
  rw [hR]
  have HR := Lib.hid hR
  clear h h' hR
  go_enter Try.func58, Try.ntmps58
  go_wp2_with fail
  go_loopw [5, 13] (fun i0 i wr => ∃ (k q : Nat), k ≤ n ∧ i = .int .i64 k ∧ wr = w.drewN q ∧ Hid (l.take k = l'.take k)) (fun _ i _ => n - (intOf i).toNat)
  case atStart => exact ⟨0, 0, by omega, rfl, rfl, Lib.hid rfl⟩
  case round =>
    obtain ⟨k, q, hk, rfl, rfl, htk⟩ := hrel
    by_cases hlt : k < n
    · obtain ⟨b, o, rfl, hb, c0, c1, c2⟩ := H.out.at_ k hlt
      obtain ⟨b', o', rfl, hb', c0', c1', c2'⟩ := H'.out.at_ k hlt
      have hkl : k < l.length := by have := H.out.1; omega
      have hkl' : k < l'.length := by have := H'.out.1; omega
      have hs : Hid (l.take (k + 1) = l.take k ++ [l[k]]) := Lib.hid (by rw [List.take_succ_eq_append_getElem hkl])
      have hs' : Hid (l'.take (k + 1) = l'.take k ++ [l'[k]]) := Lib.hid (by rw [List.take_succ_eq_append_getElem hkl'])
      have hd : Hid (l[k] ≠ l'[k] → R = false) := Lib.hid fun h => by
        rw [← HR.out, decide_eq_false_iff_not]
        rintro rfl
        exact h rfl
      generalize l[k] = p at *
      generalize l'[k] = p' at *
      obtain ⟨kd, m, t⟩ := p
      obtain ⟨kd', m', t'⟩ := p'
      simp only at c0 c1 c2 c0' c1' c2'
      have hk0 : (0 : Int) ≤ (k : Int) := by omega
      have hkn : (k : Int) < (n : Int) := by omega
      by_cases e0 : kd = kd'
      · subst e0
        by_cases e1 : m = m'
        · subst e1
          by_cases e2 : t = t'
          · subst e2
            clear hd
            go_wp2_with fail
            go_region
            all_goals
              go_wp2_with fail
              go_roundw
              case rel => exact ⟨k + 1, q + 1, by omega, by go_num, rfl, Lib.hid (by rw [hs.out, hs'.out, htk.out])⟩
              case measure => simp [intOf]; omega
          · have hl : ¬ t.toList = t'.toList := fun h => e2 (bs_ext (by rw [← ByteArray.toList_eq, ← ByteArray.toList_eq]; exact h))
            have hR : R = false := hd.out (by simp; exact e2)
            subst hR
            clear e2 hd
            go_wp2_with fail
            go_region
            all_goals
              go_wp2_with fail
              go_ret
              exact ⟨rfl, below_drewN_ (Below.refl _ _) (q + 1)⟩
        · have hR : R = false := hd.out (by simp; intro h; exact absurd h e1)
          subst hR
          clear hd
          go_wp2_with fail
          go_region
          all_goals
            go_wp2_with fail
            go_ret
            exact ⟨rfl, below_drewN_ (Below.refl _ _) (q + 1)⟩
      · have hR : R = false := hd.out (by simp; intro h; exact absurd h e0)
        subst hR
        clear hd
        go_wp2_with fail
        go_region
        all_goals
          go_wp2_with fail
          go_ret
          exact ⟨rfl, below_drewN_ (Below.refl _ _) (q + 1)⟩
    · have hR : R = true := by
        rw [← HR.out, decide_eq_true_iff]
        have h1 := htk.out
        have h2 := H.out.1
        have h3 := H'.out.1
        rwa [List.take_of_length_le (by omega), List.take_of_length_le (by omega)] at h1
      subst hR
      go_wp2_with fail
      go_ret
      exact ⟨rfl, below_drewN_ (Below.refl _ _) q⟩
theorem same_any (l l' : List Pt) (A A' : Option Addr) (n n' c c' B B' : Nat) (w : World) (h : RdP w B A n c l) (h' : RdP w B' A' n' c' l') :
    Calls Try.prog 18 #[.slice A n c, .slice A' n' c'] w fun e w' => e = .returned (.bool (decide (l = l'))) ∧ Below w.heap.size w w' := by
  have hcall : Calls Try.prog 58 #[.slice A n c, .slice A' n' c'] w fun e w' => e = .returned (.bool (decide (l = l'))) ∧ Below w.heap.size w w' := by
    by_cases e : n = n'
    · subst e; exact same_same l l' A A' n c c' B B' w h h'
    · exact same_long l l' A A' n n' c c' B B' w h h' e
  generalize decide (l = l') = R at *
  have Hc := Lib.hid hcall
  clear h h' hcall
  go_enter Try.func18, Try.ntmps18
  go_wp2_with fail
  refine Hc.out.mono ?_
  rintro e w1 ⟨rfl, hb⟩
  go_wp2_with fail
  go_ret
  exact ⟨rfl, hb⟩
theorem same_true (l l' : List Pt) (A A' : Option Addr) (n n' c c' B B' : Nat) (w : World) (h : RdP w B A n c l) (h' : RdP w B' A' n' c' l') (e : l = l') :
    Calls Try.prog 18 #[.slice A n c, .slice A' n' c'] w fun e w' => e = .returned (.bool true) ∧ Below w.heap.size w w' := by
  have := same_any l l' A A' n n' c c' B B' w h h'
  rwa [decide_eq_true e] at this
theorem refall_any (n : Int) (w : World) :
    Calls Try.prog 57 #[.int .i64 n] w fun e w' => ∃ A c, e = .returned (.slice A (allL n).length c) ∧ RdP w' w'.heap.size A (allL n).length c (allL n) ∧ Below w.heap.size w w' := by
  by_cases h : n = 0
  · subst h
    go_enter Try.func57, Try.ntmps57
    go_wp2_with fail
    go_ret
    exact ⟨none, 0, rfl, ⟨rfl, Rd.nil _ _ _, by simp [allL]⟩, Below.refl _ _⟩
  · have hn : (n == 0) = false := by simpa using h
    have hr := RdP.built w #[.int .i64 1, .int .i64 n, .string ⟨#[]⟩] [(1, n, emp)] 1 rfl rfl (by decide) (by simp [emp]; decide)
    have Hr := Lib.hid hr
    have ha : Hid (allL n = [(1, n, emp)]) := Lib.hid (by unfold allL; rw [if_neg h])
    rw [ha.out]
    clear hr h ha
    go_enter Try.func57, Try.ntmps57
    go_wp2_with fail
    go_ret
    exact ⟨_, _, rfl, by simpa using Hr.out, (Below.refl _ _).alloc (Nat.le_refl _) _⟩
theorem all_any (n : Int) (w : World) :
    Calls Try.prog 17 #[.int .i64 n] w fun e w' => ∃ A c, e = .returned (.slice A (allL n).length c) ∧ RdP w' w'.heap.size A (allL n).length c (allL n) ∧ Below w.heap.size w w' := by
  obtain ⟨L, hL⟩ : ∃ L, allL n = L := ⟨_, rfl⟩
  have hcall := refall_any n w
  rw [hL] at hcall ⊢
  have Hc := Lib.hid hcall
  clear hcall hL
  go_enter Try.func17, Try.ntmps17
  go_wp2_with fail
  refine Hc.out.mono ?_
  rintro e w1 ⟨A, c, rfl, hr, hb⟩
  have Hr := Lib.hid hr
  clear hr
  go_wp2_with fail
  go_ret
  exact ⟨_, _, rfl, Hr.out, hb⟩
end Go.Proofs.Ytfncpcmaplhojaa
namespace Go.Proofs.Ytfncpcmaplhojaa
open Go.ChangeShapes Go.WideShapes Go.RowKit
set_option linter.unusedVariables false
set_option linter.unusedSimpArgs false
set_option maxRecDepth 100000
set_option maxHeartbeats 4000000

theorem take_set3 (l : List Value) (j : Nat) (a b c : Value) (h : j * 3 + 3 ≤ l.length) :
    (((l.set (j * 3) a).set (j * 3 + 1) b).set (j * 3 + 2) c).take ((j + 1) * 3) = l.take (j * 3) ++ [a, b, c] := by
  apply List.ext_getElem?
  intro i
  rw [List.getElem?_take]
  by_cases h1 : i < j * 3
  · rw [if_pos (by omega), List.getElem?_append_left (by rw [List.length_take]; omega), List.getElem?_take, if_pos h1,
      List.getElem?_set_ne (by omega), List.getElem?_set_ne (by omega), List.getElem?_set_ne (by omega)]
  · have hl : (l.take (j * 3)).length = j * 3 := by rw [List.length_take]; omega
    rw [List.getElem?_append_right (by omega), hl]
    by_cases h2 : i = j * 3
    · subst h2
      rw [if_pos (by omega), List.getElem?_set_ne (by omega), List.getElem?_set_ne (by omega), List.getElem?_set_self (by omega)]
      simp
    · by_cases h3 : i = j * 3 + 1
      · subst h3
        rw [if_pos (by omega), List.getElem?_set_ne (by omega), List.getElem?_set_self (by rw [List.length_set]; omega)]
        simp
      · by_cases h4 : i = j * 3 + 2
        · subst h4
          rw [if_pos (by omega), List.getElem?_set_self (by rw [List.length_set, List.length_set]; omega)]
          simp
        · rw [if_neg (by omega)]
          obtain ⟨m, rfl⟩ : ∃ m, i = j * 3 + 3 + m := ⟨i - (j * 3 + 3), by omega⟩
          rw [show j * 3 + 3 + m - j * 3 = m + 3 by omega]
          rfl
/-- a list with room behind it, in which p stands three times -/
def Room (w : World) (B g n : Nat) (l : List Pt) : Prop := B ≤ g ∧ ∃ cs : Array Value, Blk w g 45 cs ∧ cs.size = (n + 3) * 3 ∧ cs.toList = pc l
theorem room_step (cs : Array Value) (l : List Pt) (j N : Nat) (kd m : Int) (t : ByteArray) (hs : cs.size = N * 3) (hj : j < N) (ht : cs.toList.take (j * 3) = pc l) :
    (((cs.setIfInBounds (j * 3) (.int .i64 kd)).setIfInBounds (j * 3 + 1) (.int .i64 m)).setIfInBounds (j * 3 + 2) (.string t)).toList.take ((j + 1) * 3) = pc (l ++ [(kd, m, t)]) := by
  rw [Array.toList_setIfInBounds, Array.toList_setIfInBounds, Array.toList_setIfInBounds, take_set3 _ _ _ _ _ (by rw [Array.length_toList, hs]; omega), ht, pc_append]
  rfl
theorem room_src {w : World} {B n c : Nat} {ad : Addr} {l : List Pt} (h : RdP w B (some ad) n c l) : ∀ j u, (pc l)[j]? = some u → w.cell? (ad.add j) = some u := by
  intro j u hj
  by_cases h0 : 0 < n
  · obtain ⟨b, o, e, hb, hc⟩ := h.2.1.2.2.2 h0
    obtain rfl := Option.some.inj e
    have := hc j u hj
    by_cases h00 : j = 0
    · subst h00; simpa [Addr.add] using this
    · simpa [Addr.add, h00] using this
  · have : l.length = 0 := by rw [← h.1]; omega
    rw [List.length_eq_zero_iff] at this
    subst this
    simp [pc] at hj
theorem pc_one (l : List Pt) : ∀ u ∈ pc l, u.oneCell' = true := by
  intro u hu
  unfold pc at hu
  obtain ⟨p, _, hp⟩ := List.mem_flatMap.1 hu
  simp only [pcells, List.mem_cons, List.not_mem_nil, or_false] at hp
  rcases hp with rfl | rfl | rfl <;> rfl
/-- append of parts where there is room -/
theorem wpList_app_room {ops : Array Oper} {rest : List Oper} {o : Oper} {a : Act} {Q : Exit → Act → World → Prop} (w : World) (hgd : o.guard = none) (s x : Operand)
    (ho : o.op = .call { callee := .builtin .append, args := #[s, x], argTypes := #[27, 27] })
    (B g N : Nat) (hs : a.eval s = .slice (some ⟨g, 0, none⟩) 0 N) (hown : w.ownsRow B 45 3 (.slice (some ⟨g, 0, none⟩) 0 N) 0 [])
    (A : Option Addr) (n c B' : Nat) (l : List Pt) (hx : a.eval x = .slice A n c) (hr : RdP w B' A n c l) (hA : A = none → c = 0) (hn : n ≤ N)
    (h : ∀ w', w'.ownsRow B 45 3 (.slice (some ⟨g, 0, none⟩) n N) n (pc l) → w.grownBy w' (some g) → wpList Try.prog ops Q rest (a.put o.dst (.slice (some ⟨g, 0, none⟩) n N)) w') :
    wpList Try.prog ops Q (o :: rest) a w := by
  obtain ⟨i0, hi, hz0, hz1, hz2⟩ := info_parts Try.info_part
  cases A with
  | none =>
    obtain rfl := hA rfl
    obtain rfl : n = 0 := by have := hr.2.1.1; omega
    have e : l = [] := by rw [← List.length_eq_zero_iff, ← hr.1]
    subst e
    exact wpList_append_own_none hgd s x 27 ho B 45 i0 3 Try.underlying27 hi _ 0 [] hs hown hx (h w hown ⟨rfl, rfl, rfl, Nat.le_refl _, fun _ _ _ => rfl⟩)
  | some ad =>
    refine wpList_append_own_spare w hgd s x 27 ho B 45 i0 3 Try.underlying27 hi hz1 _ _ _ _ hs hown ad n c (pc l) hx (by rw [pc_len, hr.1]) (room_src hr) (pc_one l) (by omega) ?_
    intro w' h1 h2
    rw [Nat.zero_add, List.nil_append] at h1
    rw [Nat.zero_add]
    exact h w' h1 h2
theorem roomy_any (l : List Pt) (p : Pt) (A : Option Addr) (n c : Nat) (w : World) (h : RdP w w.heap.size A n c l) (hn : n ≤ 4398046511104) (hA : A = none → c = 0) :
    Calls Try.prog 25 #[.slice A n c, pval p] w fun e w' => ∃ g, e = .returned (.slice (some ⟨g, 0, none⟩) n (n + 3)) ∧ Room w' w.heap.size g n (l ++ [p, p, p]) ∧ Below w.heap.size w w' := by
  obtain ⟨kd, m, t⟩ := p
  have H := Lib.hid h
  have hle := h.le
  have HA := Lib.hid hA
  clear h hA
  obtain ⟨i0, hi, hz0, hz1, hz2⟩ := info_parts Try.info_part
  obtain ⟨N, hNn⟩ : ∃ N, n + 3 = N := ⟨_, rfl⟩
  have hN : (n : Int) + 3 = (N : Int) := by omega
  have HN := Lib.hid hN
  have HNn := Lib.hid hNn
  clear hN hNn
  unfold pval
  go_enter Try.func25, Try.ntmps25
  go_wp2_with (first
    | (at_make; refine wpList_make_own _ rfl _ _ 27 rfl w.heap.size 45 i0 _ 3 Try.underlying27 hi hz0 hz1 _ _ _ N rfl rfl HN.out (by rw [hz2]; have := HNn.out; omega) (by simp only [maxLen]; have := HNn.out; omega) (by simp) ?_; intro w2 hown2 hg2; simp only [World.size_alloc] at hown2)
    | (at_builtin; refine wpList_app_room _ rfl (.tmp 10) (.tmp 11) rfl w.heap.size _ N rfl hown2 A n c _ l rfl ((H.out.stepA _).step (below_grown hg2 (Nat.le_refl _) (by simp))) HA.out (by have := HNn.out; omega) ?_; intro w3 hown3 hg3))
  have hx := (((Blk.new w 45 #[.int .i64 kd, .int .i64 m, .string t]).grown hg2 (by simp)).grown hg3 (by simp))
  have hb3 : Below w.heap.size w w3 := ((Below.refl w.heap.size w).alloc (Nat.le_refl _) _).trans ((below_grown hg2 (by simp) (by simp)).trans (below_grown hg3 (by have := hg2.size; simp at this; omega) (by simp)))
  obtain ⟨cs0, hB0, hS0, hT0⟩ : ∃ cs : Array Value, Blk w3 (w.heap.size + 1) 45 cs ∧ cs.size = N * 3 ∧ cs.toList.take (n * 3) = pc l := by
    rcases hown3.2 with ⟨h', _⟩ | ⟨g', cap', cur, h', hb, hg, hnc, hcm, hcs, htake⟩
    · simp at h'
    · simp only [Value.slice.injEq, Option.some.injEq, Addr.mk.injEq, and_true, true_and] at h'
      obtain ⟨rfl, rfl⟩ := h'
      exact ⟨cur, hg, hcs, htake⟩
  have hg1 : w.heap.size ≤ w.heap.size + 1 := by omega
  have hxg : w.heap.size ≠ w.heap.size + 1 := by omega
  clear hown2 hown3 hg2 hg3 w2 hi hz0 hz1 hz2
  obtain ⟨g, hg⟩ : ∃ g, w.heap.size + 1 = g := ⟨_, rfl⟩
  obtain ⟨x, hx0⟩ : ∃ x, w.heap.size = x := ⟨_, rfl⟩
  rw [hg] at hB0 hg1 hxg ⊢
  rw [hx0] at hx hxg hb3 hg1 ⊢
  have HX := Lib.hid hx
  have HB := Lib.hid hB0
  have HS := Lib.hid hS0
  have HT := Lib.hid hT0
  have H3 := Lib.hid hb3
  clear hx hB0 hS0 hT0 hb3 hg
  go_loopw [6, 13] (fun uv iv wr => ∃ (k : Nat) (cs : Array Value), k ≤ 3 ∧ iv = .int .i64 k ∧ Hid (cs.size = N * 3) ∧ Hid (cs.toList.take ((n + k) * 3) = pc (l ++ List.replicate k (kd, m, t))) ∧ Hid (Blk wr g 45 cs) ∧ Hid (Blk wr x 45 #[.int .i64 kd, .int .i64 m, .string t]) ∧ Hid (Below x w wr)) (fun _ iv _ => 3 - (intOf iv).toNat)
  case atStart => exact ⟨0, cs0, by omega, rfl, HS, Lib.hid (by simpa using HT.out), HB, HX, H3⟩
  case round =>
    obtain ⟨k, cs, hk, rfl, hcs, hct, hgb, hxb, hbw⟩ := hrel
    by_cases hlt2 : k < 3
    · have hkc : (k : Int) < 3 := by omega
      have hk0 : (0 : Int) ≤ (k : Int) := by omega
      have hn3 := HNn.out
      obtain ⟨j, hj⟩ : ∃ j, n + k = j := ⟨_, rfl⟩
      have hsz := hcs.out
      have hjN : j < N := by omega
      have a0 := hgb.out.cell (j * 3)
      have a1 := hgb.out.cell (j * 3 + 1)
      have a2 := hgb.out.cell (j * 3 + 2)
      obtain ⟨v0, e0⟩ : ∃ v, cs[j * 3]? = some v := ⟨cs[j * 3]'(by omega), Array.getElem?_eq_getElem (by omega)⟩
      obtain ⟨v1, e1⟩ : ∃ v, cs[j * 3 + 1]? = some v := ⟨cs[j * 3 + 1]'(by omega), Array.getElem?_eq_getElem (by omega)⟩
      obtain ⟨v2, e2⟩ : ∃ v, cs[j * 3 + 2]? = some v := ⟨cs[j * 3 + 2]'(by omega), Array.getElem?_eq_getElem (by omega)⟩
      rw [e0] at a0
      rw [e1] at a1
      rw [e2] at a2
      have f0 := hgb.out.frozen (j * 3)
      have f1 := hgb.out.frozen (j * 3 + 1)
      have f2 := hgb.out.frozen (j * 3 + 2)
      have x0 := hxb.out.cell 0
      have x1 := hxb.out.cell 1
      have x2 := hxb.out.cell 2
      have hxl := hxb.out.lt
      have hgl := hgb.out.lt
      have hw1 : IntKind.i64.wrap ((n : Int) + 3) = (N : Int) := by rw [HN.out]; exact IntWalk.i64_in _ (by omega)
      have hw2 : IntKind.i64.wrap ((n : Int) + (k : Int)) = (j : Int) := by rw [show (n : Int) + (k : Int) = (j : Int) by omega]; exact IntWalk.i64_in _ (by omega)
      have hl1 : (j : Int) < (N : Int) := by omega
      have hl0 : (0 : Int) ≤ (j : Int) := by omega
      have hl2 : (0 : Int) ≤ (N : Int) := by omega
      have Hj := Lib.hid hj
      have hjt : (j : Int).toNat = j := by omega
      have hNt : (N : Int).toNat = N := by omega
      clear e0 e1 e2 hsz hn3 hj
      go_wp2_with fail
      go_region
      go_wp2_with fail
      go_roundw
      case rel =>
        refine ⟨k + 1, ((cs.setIfInBounds (j * 3) (.int .i64 kd)).setIfInBounds (j * 3 + 1) (.int .i64 m)).setIfInBounds (j * 3 + 2) (.string t), by omega, by go_num, Lib.hid (by simpa using hcs.out), ?_, ?_, ?_, ?_⟩
        · have h1 := room_step cs (l ++ List.replicate k (kd, m, t)) j N kd m t hcs.out hjN (by rw [← Hj.out]; exact hct.out)
          rw [← Hj.out] at h1 ⊢
          rw [List.replicate_succ', ← List.append_assoc]
          exact Lib.hid h1
        · exact Lib.hid ((((hgb.out.set_ _ _).set_ _ _).set_ _ _).drew)
        · exact Lib.hid ((((hxb.out.far hxg _).far hxg _).far hxg _).drew)
        · exact Lib.hid ((((hbw.out.setCell (p := ⟨g, j * 3, none⟩) hg1 _).setCell (p := ⟨g, j * 3 + 1, none⟩) hg1 _).setCell (p := ⟨g, j * 3 + 2, none⟩) hg1 _).drew)
      case measure => simp [intOf]; omega
    · obtain rfl : k = 3 := by omega
      go_wp2_with fail
      go_ret
      have hn3 := HNn.out
      have hc3 := hct.out
      rw [hn3] at hc3
      subst hn3
      subst hx0
      refine ⟨g, rfl, ⟨hg1, cs, hgb.out, hcs.out, ?_⟩, hbw.out⟩
      rw [List.take_of_length_le (by rw [Array.length_toList, hcs.out]; omega)] at hc3
      exact hc3
end Go.Proofs.Ytfncpcmaplhojaa
