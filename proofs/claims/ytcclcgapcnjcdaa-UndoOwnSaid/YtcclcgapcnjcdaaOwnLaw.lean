/- What is cut as a revision is taken back; plain lists, no program. -/
import Derived.Test.YtcclcgapcnjcdaaBlameLaw
namespace Go.Proofs.Ytcclcgapcnjcdaa
set_option linter.unusedVariables false
set_option linter.unusedSimpArgs false

/-- what is cut is k's, what is kept is not -/
def chkO (k : Int) : List U → List Int → Prop
  | none :: us, x :: s => x ≠ k ∧ chkO k us s
  | some none :: us, x :: s => x = k ∧ chkO k us s
  | some (some _) :: us, s => chkO k us s
  | _, _ => True
theorem chk_insC (k y : Int) : ∀ (us : List U) (s : List Int), y = k → chkO k us s → chkO k (insC us) (y :: s)
  | [], s, h, _ => by simp [insC, chkO, h]
  | none :: us, s, h, h2 => by simp only [insC, chkO]; exact ⟨h, h2⟩
  | some none :: us, s, h, h2 => by simp only [insC, chkO]; exact ⟨h, h2⟩
  | some (some b) :: us, s, h, h2 => by simp only [insC, chkO] at h2 ⊢; exact chk_insC k y us s h h2
theorem chk_cz (k : Int) : ∀ (us : List U) (s : List Int), nI us = s.length → chkO k us s → chkO k (cz us) s
  | [], s, _, _ => by simp [cz, chkO]
  | none :: us, [], h, _ => by simp [nI] at h
  | none :: us, x :: s, h, h2 => by
    simp only [cz, chkO] at h2 ⊢
    exact ⟨h2.1, chk_cz k us s (by simpa [nI] using h) h2.2⟩
  | some none :: us, [], h, _ => by simp [nI] at h
  | some none :: us, x :: s, h, h2 => by
    simp only [chkO] at h2
    simp only [cz]
    exact chk_insC k x _ s h2.1 (chk_cz k us s (by simpa [nI] using h) h2.2)
  | some (some b) :: us, s, h, h2 => by
    simp only [cz, chkO] at h2 ⊢
    exact chk_cz k us s (by simpa [nI] using h) h2
theorem chk_tn (k : Int) : ∀ (us : List U) (s : List UInt8) (W : List Int), nI us = s.length → W.length = s.length → (∀ x ∈ W, x ≠ k) → chkO k (tn us s) (ap (fun _ => k) us W)
  | [], s, W, _, _, _ => by cases s <;> simp [tn, ap, chkO]
  | none :: us, [], W, h, _, _ => by simp [nI] at h
  | none :: us, x :: s, [], _, h, _ => by simp at h
  | none :: us, x :: s, y :: W, h, h2, h3 => by
    simp only [tn, ap, chkO]
    exact ⟨h3 y (by simp), chk_tn k us s W (by simpa [nI] using h) (by simpa using h2) fun z hz => h3 z (by simp [hz])⟩
  | some none :: us, [], W, h, _, _ => by simp [nI] at h
  | some none :: us, x :: s, [], _, h, _ => by simp at h
  | some none :: us, x :: s, y :: W, h, h2, h3 => by
    simp only [tn, ap, chkO]
    exact chk_tn k us s W (by simpa [nI] using h) (by simpa using h2) fun z hz => h3 z (by simp [hz])
  | some (some b) :: us, s, W, h, h2, h3 => by
    have := chk_tn k us s W (by simpa [nI] using h) h2 h3
    cases s <;> (simp only [tn, ap, chkO]; exact ⟨trivial, this⟩)
theorem chk_mt (k c : Int) (hc : c ≠ k) (xs ys : List U) (h : nI xs = nI ys) : ∀ W : List Int, nI xs = W.length → chkO k ys W → chkO k (mt xs ys).2 (ap (fun _ => c) xs W) := by
  refine mt_ind (M := fun xs ys => ∀ W : List Int, nI xs = W.length → chkO k ys W → chkO k (mt xs ys).2 (ap (fun _ => c) xs W)) (fun W _ _ => by simp [mt, lead, chkO]) ?_ ?_ ?_ ?_ ?_ ?_ _ xs ys (Nat.le_refl _) h
  · intro b xs ys h ih W hW h2
    have := ih W (by simpa [nI] using hW) h2
    simp only [mt, ap, chkO]
    exact ⟨hc, this⟩
  · intro xs b ys hx h ih W hW h2
    rw [mt_put _ _ _ hx]
    simp only [chkO] at h2 ⊢
    exact ih W hW h2
  · intro xs ys h ih W hW h2
    cases W with
    | nil => simp [nI] at hW
    | cons x W =>
      simp only [chkO] at h2
      have := ih W (by simpa [nI] using hW) h2.2
      simpa [mt, lead, rst, ap, chkO] using ⟨h2.1, this⟩
  · intro xs ys h ih W hW h2
    cases W with
    | nil => simp [nI] at hW
    | cons x W =>
      simp only [chkO] at h2
      have := ih W (by simpa [nI] using hW) h2.2
      simpa [mt, lead, rst, ap, chkO] using ⟨h2.1, this⟩
  · intro xs ys h ih W hW h2
    cases W with
    | nil => simp [nI] at hW
    | cons x W =>
      simp only [chkO] at h2
      have := ih W (by simpa [nI] using hW) h2.2
      simpa [mt, lead, rst, ap, chkO] using this
  · intro xs ys h ih W hW h2
    cases W with
    | nil => simp [nI] at hW
    | cons x W =>
      simp only [chkO] at h2
      have := ih W (by simpa [nI] using hW) h2.2
      simpa [mt, lead, rst, ap, chkO] using this
theorem own_fold (k : Nat) : ∀ (rest : List Rv) (o : List Pt) (W : List Int) (j : Nat) (s : ByteArray), chkO k (units o) W → nI (units o) = W.length → txr s rest = 0 → W.length = s.size → k ≤ j → mtE o rest = 0 →
    chkO k (units (mtL o rest)) (blL j W rest) ∧ nI (units (mtL o rest)) = (blL j W rest).length
  | [], o, W, j, s, h1, h2, _, _, _, _ => ⟨h1, h2⟩
  | r :: l, o, W, j, s, h1, h2, h3, h4, h5, h6 => by
    simp only [txr] at h3
    split at h3
    · omega
    · split at h3
      · omega
      · rename_i q1 q2
        have q2' : doE r.2.2 s = 0 := by omega
        have hk := do_chk q2'
        simp only [mtE] at h6
        split at h6
        · omega
        · rename_i h7
          have h7' : meetE r.2.2 o = 0 := by omega
          have hn : nI (units r.2.2) = W.length := by rw [hk.2.1, h4]
          have hm := meet_chk h7'
          have ha := ap_length (fun _ => (j : Int) + 1) (units r.2.2) W hn
          have hz := do_size q2'
          have hc := chk_mt k ((j : Int) + 1) (by omega) (units r.2.2) (units o) hm.2.2.1 W hn h1
          have hmi := nI_mt (units r.2.2) (units o) hm.2.2.1
          have e : units (meetD r.2.2 o) = cz (mt (units r.2.2) (units o)).2 := (meet_units h7').2
          have hl2 : nI (mt (units r.2.2) (units o)).2 = (ap (fun _ => (j : Int) + 1) (units r.2.2) W).length := by rw [hmi.2, ha]
          simp only [mtL, blL]
          exact own_fold k l (meetD r.2.2 o) _ (j + 1) (doS r.2.2 s) (by rw [e]; exact chk_cz k _ _ hl2 hc) (by rw [e, nI_cz, hl2]) h3 (by omega) (by omega) h6
theorem undo_own {base : ByteArray} {l : List Rv} (h : txE base l = 0) (m : Nat) (hm : m < l.length) (d : List Pt) (hd : (l[m]'hm).2.2 = d) (hE : mtE (turnL d (txt base l m)) (l.drop (m + 1)) = 0) :
    chkO ((m + 1 : Nat) : Int) (units (mtL (turnL d (txt base l m)) (l.drop (m + 1)))) (blame base l) ∧ nI (units (mtL (turnL d (txt base l m)) (l.drop (m + 1)))) = (blame base l).length := by
  have hp := txE_parts h
  have ha := txr_at l base m hm hp.2.2
  rw [hd] at ha
  have e : blame base l = blL (m + 1) (ap (fun _ => (m : Int) + 1) (units d) (blame base (l.take m))) (l.drop (m + 1)) := by
    have h1 := bl_app (l.take m) (l.drop m) 0 (List.replicate base.size 0)
    rw [List.take_append_drop, List.length_take, Nat.min_eq_left (by omega), Nat.zero_add, List.drop_eq_getElem_cons hm] at h1
    simp only [blL] at h1
    rw [hd] at h1
    exact h1
  have hW := blame_len (txE_take h m)
  rw [List.length_take, Nat.min_eq_left (by omega), txt_take _ _ _ _ (Nat.le_refl _)] at hW
  have hr := blame_range base (l.take m)
  rw [List.length_take, Nat.min_eq_left (by omega)] at hr
  have ht := turn_ok ha.2.1
  have hk := do_chk ha.2.1
  have hz := do_size ha.2.1
  have hn : nI (units d) = (blame base (l.take m)).length := by rw [hk.2.1, hW]
  have hl := ap_length (fun _ => (m : Int) + 1) (units d) _ hn
  have hS : (txt base l m).data.toList.length = (txt base l m).size := rfl
  have hc := chk_tn ((m + 1 : Nat) : Int) (units d) (txt base l m).data.toList (blame base (l.take m)) (by rw [hS]; exact hk.2.1) (by rw [hS]; exact hW) (fun x hx => by have := hr x hx; omega)
  rw [show ((m + 1 : Nat) : Int) = (m : Int) + 1 by omega] at hc ⊢
  have hnt := nI_tn (units d) (txt base l m).data.toList (by rw [hS]; exact hk.2.1)
  rw [e]
  have hd2 := txr_drop l base (m + 1) hp.2.2
  have := own_fold (m + 1) (l.drop (m + 1)) (turnL d (txt base l m)) (ap (fun _ => (m : Int) + 1) (units d) (blame base (l.take m))) (m + 1) (txt base l (m + 1)) (by
    rw [ht.2.2.1, show ((m + 1 : Nat) : Int) = (m : Int) + 1 by omega]
    exact chk_cz _ _ _ (by rw [hnt, hl]) hc) (by rw [ht.2.2.2.1, hl]) hd2 (by rw [hl, ← hz, ha.2.2]) (Nat.le_refl _) hE
  rw [show ((m + 1 : Nat) : Int) = (m : Int) + 1 by omega] at this
  exact this
theorem chk_none (k : Int) (n : Nat) (us : List U) (s : List Int) (h : chkO k (List.replicate n none ++ us) s) (hn : n ≤ s.length) : (∀ i (hi : i < n), s[i]'(by omega) ≠ k) ∧ chkO k us (s.drop n) := by
  induction n generalizing s with
  | zero => exact ⟨fun i hi => absurd hi (by omega), by simpa using h⟩
  | succ n ih =>
    cases s with
    | nil => simp at hn
    | cons x s =>
      rw [List.replicate_succ, List.cons_append] at h
      simp only [chkO] at h
      obtain ⟨h1, h2⟩ := ih s h.2 (by simpa using hn)
      refine ⟨fun i hi => ?_, by simpa using h2⟩
      cases i with
      | zero => exact h.1
      | succ i => exact h1 i (by omega)
theorem chk_some (k : Int) (n : Nat) (us : List U) (s : List Int) (h : chkO k (List.replicate n (some none) ++ us) s) (hn : n ≤ s.length) : (∀ i (hi : i < n), s[i]'(by omega) = k) ∧ chkO k us (s.drop n) := by
  induction n generalizing s with
  | zero => exact ⟨fun i hi => absurd hi (by omega), by simpa using h⟩
  | succ n ih =>
    cases s with
    | nil => simp at hn
    | cons x s =>
      rw [List.replicate_succ, List.cons_append] at h
      simp only [chkO] at h
      obtain ⟨h1, h2⟩ := ih s h.2 (by simpa using hn)
      refine ⟨fun i hi => ?_, by simpa using h2⟩
      cases i with
      | zero => exact h.1
      | succ i => exact h1 i (by omega)
theorem chk_puts (k : Int) (t : List UInt8) (us : List U) (s : List Int) (h : chkO k (t.map (fun b => some (some b)) ++ us) s) : chkO k us s := by
  induction t with
  | nil => simpa using h
  | cons x t ih => simp only [List.map_cons, List.cons_append, chkO] at h; exact ih h
/-- one part of what is told -/
theorem chk_part (k : Int) {X : List Int} {at_ : Nat} {kd m : Int} {t : ByteArray} {l : List Pt} (hs : Shape (kd, m, t)) (h : chkO k (units ((kd, m, t) :: l)) (X.drop at_)) (hn : nI (units ((kd, m, t) :: l)) = (X.drop at_).length) (hat : at_ ≤ X.length) :
    ∃ z : Nat, m = (z : Int) ∧ at_ + z ≤ X.length ∧ (∀ i (hi : i < z) (h2 : at_ + i < X.length), (X[at_ + i] == k) = (kd == 3)) ∧ chkO k (units l) (X.drop (at_ + z)) ∧ nI (units l) = (X.drop (at_ + z)).length := by
  rw [List.length_drop] at hn
  rw [units_cons, nI_append] at hn
  rcases hs with ⟨h1 | h1, h4, h3⟩ | ⟨h1, h4, _⟩
  · simp only at h1 h3 h4; subst h1; subst h3
    obtain ⟨z, rfl⟩ := Int.eq_ofNat_of_zero_le (show 0 ≤ m by omega)
    have e : up ((1, (z : Int), emp) : Pt) = List.replicate z none := by simp [up]
    rw [e, nI_keeps] at hn
    rw [units_cons, e] at h
    obtain ⟨q1, q2⟩ := chk_none k z (units l) _ h (by rw [List.length_drop]; omega)
    refine ⟨z, rfl, by omega, fun i hi h2 => ?_, by rw [List.drop_drop] at q2; exact q2, by rw [List.length_drop]; omega⟩
    have := q1 i hi
    rw [List.getElem_drop] at this
    simpa using this
  · simp only at h1 h3 h4; subst h1; subst h3
    obtain ⟨z, rfl⟩ := Int.eq_ofNat_of_zero_le (show 0 ≤ m by omega)
    have e : up ((3, (z : Int), emp) : Pt) = List.replicate z (some none) := by simp [up]
    rw [e, nI_cuts] at hn
    rw [units_cons, e] at h
    obtain ⟨q1, q2⟩ := chk_some k z (units l) _ h (by rw [List.length_drop]; omega)
    refine ⟨z, rfl, by omega, fun i hi h2 => ?_, by rw [List.drop_drop] at q2; exact q2, by rw [List.length_drop]; omega⟩
    have := q1 i hi
    rw [List.getElem_drop] at this
    simpa using this
  · simp only at h1 h4; subst h1; subst h4
    have e : up ((2, 0, t) : Pt) = t.data.toList.map (fun b => some (some b)) := by simp [up]
    have h0 : nI (t.data.toList.map (fun b => (some (some b) : U))) = 0 := nI_pu t
    rw [e, h0] at hn
    rw [units_cons, e] at h
    exact ⟨0, rfl, by omega, fun i hi => absurd hi (by omega), by rw [Nat.add_zero]; exact chk_puts k _ _ _ h, by rw [Nat.add_zero, List.length_drop]; omega⟩
end Go.Proofs.Ytcclcgapcnjcdaa
