/- What cuts nothing, and meets two as one; plain lists, no program. -/
import Derived.Test.YtchnbmdfpgkefaaMeetLaw
namespace Go.Proofs.Ytchnbmdfpgkefaa
set_option linter.unusedVariables false
set_option linter.unusedSimpArgs false

/-- nothing is cut -/
def NC (us : List U) : Prop := ∀ u ∈ us, u ≠ some none
def PU (us : List U) : Prop := ∀ u ∈ us, ∃ b, u = some (some b)
theorem NC.cons {u : U} {us : List U} (h : NC (u :: us)) : u ≠ some none ∧ NC us := ⟨h u (by simp), fun v hv => h v (by simp [hv])⟩
theorem NC.app {a b : List U} (h : NC (a ++ b)) : NC a ∧ NC b := ⟨fun v hv => h v (by simp [hv]), fun v hv => h v (by simp [hv])⟩
theorem cz_nc : ∀ us : List U, NC us → cz us = us
  | [], _ => rfl
  | none :: us, h => by simp only [cz]; rw [cz_nc us h.cons.2]
  | some none :: us, h => absurd rfl h.cons.1
  | some (some b) :: us, h => by simp only [cz]; rw [cz_nc us h.cons.2]
theorem lead_rst : ∀ us : List U, us = lead us ++ rst us
  | [] => rfl
  | none :: us => rfl
  | some none :: us => rfl
  | some (some b) :: us => by simp only [lead, rst, List.cons_append]; rw [← lead_rst us]
theorem lead_pu_ : ∀ us : List U, PU (lead us)
  | [] => by simp [lead, PU]
  | none :: us => by simp [lead, PU]
  | some none :: us => by simp [lead, PU]
  | some (some b) :: us => by
    intro u hu
    simp only [lead, List.mem_cons] at hu
    rcases hu with rfl | hu
    · exact ⟨b, rfl⟩
    · exact lead_pu_ us u hu
theorem rst_np : ∀ us : List U, ∀ c r, rst us ≠ some (some c) :: r
  | [], c, r, h => by simp [rst] at h
  | none :: us, c, r, h => by simp [rst] at h
  | some none :: us, c, r, h => by simp [rst] at h
  | some (some b) :: us, c, r, h => rst_np us c r h
theorem PU.form : ∀ {L : List U}, PU L → ∃ l : List UInt8, L = l.map (fun b => some (some b))
  | [], _ => ⟨[], rfl⟩
  | u :: L, h => by
    obtain ⟨b, rfl⟩ := h u (by simp)
    obtain ⟨l, hl⟩ := PU.form (L := L) fun v hv => h v (by simp [hv])
    exact ⟨b :: l, by rw [hl]; rfl⟩
def kl (L : List U) : List U := List.replicate L.length none
theorem mt_xl {L : List U} (h : PU L) (xs ys : List U) : mt (L ++ xs) ys = (L ++ (mt xs ys).1, kl L ++ (mt xs ys).2) := by
  obtain ⟨l, rfl⟩ := h.form
  rw [mt_xputs]
  simp [kl]
theorem mt_yl {L : List U} (h : PU L) (xs ys : List U) (hx : ∀ c r, xs ≠ some (some c) :: r) : mt xs (L ++ ys) = (kl L ++ (mt xs ys).1, L ++ (mt xs ys).2) := by
  obtain ⟨l, rfl⟩ := h.form
  rw [mt_yputs _ _ _ hx]
  simp [kl]
theorem cmp_l {L : List U} (h : PU L) (xs ys : List U) (hx : ∀ r, xs ≠ some none :: r) : cmp xs (L ++ ys) = L ++ cmp xs ys := by
  obtain ⟨l, rfl⟩ := h.form
  exact cmp_puts _ _ _ hx
theorem nI_l {L : List U} (h : PU L) : nI L = 0 := by
  obtain ⟨l, rfl⟩ := h.form
  induction l with
  | nil => rfl
  | cons x l ih => simpa [nI] using ih fun u hu => h u (by simp only [List.map_cons, List.mem_cons]; exact .inr hu)
theorem ap_l {α : Type} (f : UInt8 → α) {L : List U} (h : PU L) (us : List U) (r : List α) : ap f (L ++ us) r = ap f L [] ++ ap f us r := by
  have := ap_append f L us [] r (by rw [nI_l h]; rfl)
  simpa using this
theorem cz_l {L : List U} (h : PU L) (us : List U) : cz (L ++ us) = L ++ cz us := by
  obtain ⟨l, rfl⟩ := h.form
  exact cz_puts l 0 us
theorem cz_k (n : Nat) (us : List U) : cz (List.replicate n none ++ us) = List.replicate n none ++ cz us := by
  induction n with
  | zero => rfl
  | succ n ih => rw [List.replicate_succ]; simp only [List.cons_append, cz]; rw [ih]
theorem cz_cmp_lead {L m n : List U} (h : PU L) (hn : nO m = nI n) : cz (cmp m (L ++ n)) = cz (L ++ cmp m n) := by
  have h1 : nO m = nI (L ++ n) := by rw [nI_append, nI_l h]; omega
  refine cz_of_ap (by rw [nI_cmp _ _ h1, nI_append, nI_l h, nI_cmp _ _ hn]; omega) fun s hs => ?_
  rw [nI_cmp _ _ h1] at hs
  rw [ap_cmp _ _ _ h1 s (by omega), ap_l _ h, ap_l _ h, ap_cmp _ _ _ hn s (by omega)]
/-- a right form that does not begin with what is put -/
theorem form_np : ∀ (a : List U), Cn a → (∀ c r, a ≠ some (some c) :: r) → ∃ n rest, a = List.replicate n (some none) ++ rest ∧ (rest = [] ∨ ∃ a', rest = none :: a')
  | [], _, _ => ⟨0, [], rfl, .inl rfl⟩
  | none :: a, _, _ => ⟨0, none :: a, rfl, .inr ⟨a, rfl⟩⟩
  | some (some b) :: a, _, h => absurd rfl (h b a)
  | some none :: a, hc, _ => by
    obtain ⟨n, rest, e, hr⟩ := form_np a (cn_tail hc) (by
      rintro c r rfl
      exact hc.elim)
    exact ⟨n + 1, rest, by rw [e, List.replicate_succ]; rfl, hr⟩
theorem insC_cut (n : Nat) (Z : List U) (hz : ∀ c r, Z ≠ some (some c) :: r) : insC (List.replicate n (some none) ++ Z) = List.replicate (n + 1) (some none) ++ Z := by
  rcases n with _ | n
  · rcases Z with _ | ⟨_ | _ | x, Z⟩
    · rfl
    · rfl
    · rfl
    · exact absurd rfl (hz x Z)
  · rw [List.replicate_succ]; rfl
theorem cz_cuts_np (n : Nat) (Z : List U) (hz : ∀ c r, cz Z ≠ some (some c) :: r) : cz (List.replicate n (some none) ++ Z) = List.replicate n (some none) ++ cz Z := by
  induction n with
  | zero => rfl
  | succ n ih =>
    rw [List.replicate_succ, List.cons_append]; simp only [cz]
    rw [ih, insC_cut n _ hz, List.replicate_succ]
theorem nO_cut_free {b : List U} (h : NC b) (hb : ∀ c r, b ≠ some (some c) :: r) : b = [] ∨ ∃ b', b = none :: b' := by
  rcases b with _ | ⟨_ | _ | x, b⟩
  · exact .inl rfl
  · exact .inr ⟨b, rfl⟩
  · exact absurd rfl h.cons.1
  · exact absurd rfl (hb x b)
theorem cz_cmp_np {a b : List U} (ha : Cn a) (ha' : ∀ c r, a ≠ some (some c) :: r) (hb : NC b) (hn : nO a = nI b) : ∃ Y, cz (cmp a b) = lead b ++ Y ∧ ∀ c r, Y ≠ some (some c) :: r := by
  have hl := lead_pu_ b
  have hr := rst_np b
  have e := lead_rst b
  have hnr : nO a = nI (rst b) := by rw [hn]; conv => lhs; rw [e]
                                     rw [nI_append, nI_l hl]; omega
  have hbr : NC (rst b) := by rw [e] at hb; exact hb.app.2
  obtain ⟨n, rest, rfl, hrest⟩ := form_np a ha ha'
  refine ⟨cz (cmp (List.replicate n (some none) ++ rest) (rst b)), ?_, ?_⟩
  · conv => lhs; rw [e]
    rw [cz_cmp_lead hl hnr, cz_l hl]
  · rw [cmp_cuts]
    rw [nO_append, nO_cuts] at hnr
    rcases hrest with rfl | ⟨a', rfl⟩
    · rcases nO_cut_free hbr hr with h | ⟨b', h⟩
      · rw [h, cz_cuts_np _ _ (by simp [cmp, lead, cz])]
        intro c r h2
        rcases n with _ | n
        · simp [cmp, lead, cz] at h2
        · rw [List.replicate_succ] at h2; simp at h2
      · rw [h] at hnr; simp [nO, nI] at hnr
    · rcases nO_cut_free hbr hr with h | ⟨b', h⟩
      · rw [h] at hnr; simp [nO, nI] at hnr
      · rw [h, cz_cuts_np _ _ (by simp [cmp, lead, rst, cz])]
        intro c r h2
        rcases n with _ | n
        · simp [cmp, lead, rst, cz] at h2
        · rw [List.replicate_succ] at h2; simp at h2
theorem nc_split {c : List U} (h : NC c) (hn : 1 ≤ nI c) : ∃ c', c = lead c ++ none :: c' ∧ NC c' ∧ nI c = nI c' + 1 := by
  have e := lead_rst c
  have hr : NC (rst c) := by rw [e] at h; exact h.app.2
  have h0 := nI_l (lead_pu_ c)
  rcases nO_cut_free hr (rst_np c) with h1 | ⟨c', h1⟩
  · exfalso
    rw [h1, List.append_nil] at e
    rw [e] at hn
    omega
  · rw [h1] at e hr
    refine ⟨c', e, hr.cons.2, ?_⟩
    conv => lhs; rw [e]
    rw [nI_append, h0]
    simp [nI]
theorem nc_none {c : List U} (h : NC c) (hn : nI c = 0) : lead c = c ∧ PU c := by
  have e := lead_rst c
  have hr : NC (rst c) := by rw [e] at h; exact h.app.2
  rcases nO_cut_free hr (rst_np c) with h1 | ⟨c', h1⟩
  · rw [h1, List.append_nil] at e
    exact ⟨e.symm, by rw [e]; exact lead_pu_ c⟩
  · exfalso
    rw [e, nI_append, h1] at hn
    simp [nI] at hn
theorem NC.mt2 {a c : List U} (h : NC c) (hn : nI a = nI c) : NC (mt a c).2 := by
  refine mt_ind (M := fun a c => NC c → NC (mt a c).2) (fun _ => by simp [mt, lead, NC]) ?_ ?_ ?_ ?_ ?_ ?_ _ a c (Nat.le_refl _) hn h
  · intro b xs ys _ ih h u hu
    simp only [mt, List.mem_cons] at hu
    rcases hu with rfl | hu
    · simp
    · exact ih h u hu
  · intro xs b ys hx _ ih h u hu
    rw [mt_put _ _ _ hx] at hu
    simp only [List.mem_cons] at hu
    rcases hu with rfl | hu
    · simp
    · exact ih h.cons.2 u hu
  · intro xs ys _ ih h u hu
    simp only [mt, lead, rst, List.nil_append, List.mem_cons] at hu
    rcases hu with rfl | hu
    · simp
    · exact ih h.cons.2 u hu
  · intro xs ys _ ih h; exact absurd rfl h.cons.1
  · intro xs ys _ ih h u hu
    simp only [mt, lead, rst, List.nil_append] at hu
    exact ih h.cons.2 u hu
  · intro xs ys _ ih h; exact absurd rfl h.cons.1
theorem map_none (c : List U) : c.map (fun _ => (none : U)) = List.replicate c.length none := by
  induction c with
  | nil => rfl
  | cons x c ih => rw [List.map_cons, ih, List.length_cons, List.replicate_succ]
/-- one as two, and one that meets both -/
theorem joins_units : ∀ (a b c : List U), Cn a → NC b → NC c → nI a = nI c → nO a = nI b →
    cz (mt (cz (cmp a b)) c).1 = cz (cmp (mt a c).1 (mt b (mt a c).2).1) ∧ (mt (cz (cmp a b)) c).2 = (mt b (mt a c).2).2
  | [], b, c, _, hb, hc, hn, ho => by
    obtain ⟨e1, p1⟩ := nc_none hb (by rw [← ho]; rfl)
    obtain ⟨e2, p2⟩ := nc_none hc (by rw [← hn]; rfl)
    have h0 : cmp [] b = b := by show lead b = b; exact e1
    have h1 : mt [] c = (kl c, c) := by
      show ((lead c).map (fun _ => none), lead c) = _
      rw [e2, map_none]; rfl
    rw [h0, cz_nc b hb, h1]
    have hm := mt_xl p1 [] c
    rw [List.append_nil, h1] at hm
    rw [hm]
    refine ⟨?_, rfl⟩
    have h2 := cmp_l p1 (kl c) (kl c) (by
      intro r
      unfold kl
      cases c.length <;> simp [List.replicate_succ])
    rw [h2]
    have h3 := cmp_kk c.length [] []
    rw [List.append_nil, show cmp [] ([] : List U) = [] from rfl, List.append_nil] at h3
    unfold kl
    rw [h3]
  | none :: a, b, c, ha, hb, hc, hn, ho => by
    obtain ⟨c', ec, hc', nc⟩ := nc_split hc (by rw [← hn]; simp [nI])
    obtain ⟨b', eb, hb', nb⟩ := nc_split hb (by rw [← ho]; simp [nO])
    have hlb := lead_pu_ b
    have hlc := lead_pu_ c
    generalize lead b = L at *
    generalize lead c = C at *
    subst ec eb
    obtain ⟨i1, i2⟩ := joins_units a b' c' ha hb' hc' (by simp only [nI] at hn; omega) (by simp only [nO] at ho; omega)
    have e1 : cz (cmp (none :: a) (L ++ none :: b')) = L ++ none :: cz (cmp a b') := by
      rw [cmp_l hlb _ _ (by simp), cz_l hlb]; rfl
    have e2 : ∀ xs ys, mt (none :: xs) (C ++ none :: ys) = (kl C ++ none :: (mt xs ys).1, C ++ none :: (mt xs ys).2) := fun xs ys => by rw [mt_yl hlc _ _ (by simp)]; rfl
    rw [e1, mt_xl hlb, e2, e2]
    simp only
    rw [mt_xl hlb, e2]
    simp only
    refine ⟨?_, by rw [i2]⟩
    rw [cmp_l hlb _ _ (by unfold kl; intro r; cases C.length <;> simp [List.replicate_succ]), cz_l hlb, cz_l hlb]
    congr 1
    have h3 := cmp_kk C.length (none :: (mt a c').1) (none :: (mt b' (mt a c').2).1)
    unfold kl
    rw [h3, cz_k, cz_k]
    congr 1
    show none :: cz (mt (cz (cmp a b')) c').1 = none :: cz (cmp (mt a c').1 (mt b' (mt a c').2).1)
    rw [i1]
  | some (some y) :: a, b, c, ha, hb, hc, hn, ho => by
    obtain ⟨b', eb, hb', nb⟩ := nc_split hb (by rw [← ho]; simp [nO])
    have hlb := lead_pu_ b
    generalize lead b = L at *
    subst eb
    obtain ⟨i1, i2⟩ := joins_units a b' c (cn_tail ha) hb' hc (by simpa [nI] using hn) (by simp only [nO] at ho; omega)
    have e1 : cz (cmp (some (some y) :: a) (L ++ none :: b')) = L ++ some (some y) :: cz (cmp a b') := by
      rw [cmp_l hlb _ _ (by simp), cz_l hlb]; rfl
    have e3 : mt (some (some y) :: cz (cmp a b')) c = (some (some y) :: (mt (cz (cmp a b')) c).1, none :: (mt (cz (cmp a b')) c).2) := rfl
    have e4 : mt (some (some y) :: a) c = (some (some y) :: (mt a c).1, none :: (mt a c).2) := rfl
    have e5 : mt (none :: b') (none :: (mt a c).2) = (none :: (mt b' (mt a c).2).1, none :: (mt b' (mt a c).2).2) := rfl
    rw [e1, mt_xl hlb, e3, e4]
    simp only
    rw [mt_xl hlb, e5]
    simp only
    refine ⟨?_, by rw [i2]⟩
    rw [cmp_l hlb _ _ (by simp), cz_l hlb, cz_l hlb]
    congr 1
    show some (some y) :: cz (mt (cz (cmp a b')) c).1 = some (some y) :: cz (cmp (mt a c).1 (mt b' (mt a c).2).1)
    rw [i1]
  | some none :: a, b, c, ha, hb, hc, hn, ho => by
    have ha' : ∀ x r, a ≠ some (some x) :: r := by
      rintro x r rfl
      exact ha.elim
    obtain ⟨c', ec, hc', nc⟩ := nc_split hc (by rw [← hn]; simp [nI])
    have hlc := lead_pu_ c
    obtain ⟨Y, eY, hY⟩ := cz_cmp_np (cn_tail ha) ha' hb (by simpa [nO] using ho)
    have hlb := lead_pu_ b
    have hrb := rst_np b
    have eb := lead_rst b
    generalize lead b = L at *
    generalize rst b = b0 at *
    generalize lead c = C at *
    subst ec eb
    have hncc : NC (C ++ c') := fun u hu => hc u (by simp only [List.mem_append, List.mem_cons] at hu ⊢; rcases hu with h | h; exact .inl h; exact .inr (.inr h))
    have hnc' : nI a = nI c' := by simp only [nI] at hn; omega
    obtain ⟨i1, i2⟩ := joins_units a (L ++ b0) (C ++ c') (cn_tail ha) hb hncc (by rw [nI_append, nI_l hlc]; omega) (by simpa [nO] using ho)
    have q1 : mt a (C ++ c') = (kl C ++ (mt a c').1, C ++ (mt a c').2) := mt_yl hlc _ _ ha'
    have q2 : mt Y (C ++ c') = (kl C ++ (mt Y c').1, C ++ (mt Y c').2) := mt_yl hlc _ _ hY
    have q3 : ∀ xs, mt (some none :: xs) (C ++ none :: c') = (kl C ++ some none :: (mt xs c').1, C ++ (mt xs c').2) := fun xs => by rw [mt_yl hlc _ _ (by simp)]; rfl
    have q4 : mt b0 (C ++ (mt a c').2) = (kl C ++ (mt b0 (mt a c').2).1, C ++ (mt b0 (mt a c').2).2) := mt_yl hlc _ _ hrb
    rw [eY, mt_xl hlb, q2, q1] at i1 i2
    simp only at i1 i2
    rw [mt_xl hlb, q4] at i1 i2
    simp only at i1 i2
    have e1 : cz (cmp (some none :: a) (L ++ b0)) = L ++ some none :: Y := by
      show insC (cz (cmp a (L ++ b0))) = _
      rw [eY]
      obtain ⟨l, rfl⟩ := hlb.form
      clear i1 i2 eY hb ho hlb
      induction l with
      | nil =>
        rcases Y with _ | ⟨_ | _ | x, Y⟩
        · rfl
        · rfl
        · rfl
        · exact absurd rfl (hY x Y)
      | cons x l ih => simp only [List.map_cons, List.cons_append, insC]; rw [ih]
    rw [e1, mt_xl hlb, q3, q3]
    simp only
    rw [mt_xl hlb, q4]
    simp only
    refine ⟨?_, i2⟩
    have hm1 := nI_mt a c' hnc'
    have hob : nO a = nI b0 := by
      have : nO a = nI (L ++ b0) := by simpa [nO] using ho
      rw [nI_append, nI_l hlb] at this
      omega
    have hbm : nI b0 = nI (mt a c').2 := by omega
    have hm2 := nI_mt b0 (mt a c').2 hbm
    have ho2 : nO (mt a c').1 = nO (mt a c').2 := (nO_mt a c' hnc').1
    have hno : nO (kl C ++ (mt a c').1) = nI (kl C ++ (mt b0 (mt a c').2).1) := by
      unfold kl
      rw [nO_append, nI_append, nO_keeps, nI_keeps]; omega
    have hno2 : nO (kl C ++ some none :: (mt a c').1) = nI (kl C ++ (mt b0 (mt a c').2).1) := by
      unfold kl
      rw [nO_append, nI_append, nO_keeps, nI_keeps]; simp only [nO]; omega
    rw [cz_cmp_lead hlb hno, cz_l hlb, cz_l hlb] at i1
    rw [cz_cmp_lead hlb hno2, cz_l hlb, cz_l hlb]
    have i3 := List.append_cancel_left i1
    unfold kl at i3 ⊢
    rw [cmp_kk, cz_k, cz_k] at i3
    rw [cmp_kk, cz_k, cz_k]
    have i4 := List.append_cancel_left i3
    congr 2
    show insC (cz (mt Y c').1) = insC (cz (cmp (mt a c').1 (mt b0 (mt a c').2).1))
    rw [i4]
def hasCut (l : List Pt) : Bool := l.any (fun p => p.1 == 3)
theorem nc_of {l : List Pt} (h : hasCut l = false) (hf : Fine l) : NC (units l) := by
  intro u hu
  unfold units at hu
  obtain ⟨p, hp, hu⟩ := List.mem_flatMap.1 hu
  have h1 : p.1 ≠ 3 := by
    have := List.any_eq_false.1 h p hp
    simpa using this
  obtain ⟨k, n, t⟩ := p
  rcases hf _ hp with ⟨h2 | h2, _, _⟩ | ⟨h2, _, _⟩
  · simp only at h2; subst h2
    simp only [up, if_true, List.mem_replicate] at hu
    rw [hu.2]; simp
  · exact absurd h2 h1
  · simp only at h2; subst h2
    rw [show up ((2, n, t) : Pt) = t.data.toList.map (fun b => some (some b)) from rfl] at hu
    obtain ⟨x, _, rfl⟩ := List.mem_map.1 hu
    simp
theorem cmp_cz_cz {u v : List U} (h : nO u = nI v) : cz (cmp (cz u) (cz v)) = cz (cmp u v) := by
  have h1 : nO (cz u) = nI (cz v) := by rw [nO_cz, nI_cz, h]
  refine cz_of_ap (by rw [nI_cmp _ _ h1, nI_cmp _ _ h, nI_cz]) fun s hs => ?_
  rw [nI_cmp _ _ h1, nI_cz] at hs
  rw [ap_cmp _ _ _ h1 s (by rw [nI_cz]; omega), ap_cmp _ _ _ h s (by omega), ap_cz _ _ s (by omega), ap_cz]
  rw [ap_length _ _ _ (by omega)]; omega
theorem meet_joins {a b c : List Pt} (h0 : compE a b = 0) (hb : hasCut b = false) (hc : hasCut c = false) (h1 : meetE (compL a b) c = 0) (h2 : meetE a c = 0) (h3 : meetE b (meetD a c) = 0) :
    compE (meetC a c) (meetC b (meetD a c)) = 0 ∧ meetC (compL a b) c = compL (meetC a c) (meetC b (meetD a c)) ∧ meetD (compL a b) c = meetD b (meetD a c) := by
  have c0 := comp_chk h0
  have m1 := meet_chk h1
  have m2 := meet_chk h2
  have m3 := meet_chk h3
  have z2 := meet_sizes h2
  have z3 := meet_sizes h3
  have u2 := meet_units h2
  have u3 := meet_units h3
  have hcn := cn_good c0.1
  have nb := nc_of hb (chk_parts c0.2.1).2.2.1
  have nc := nc_of hc (chk_parts m2.2.1).2.2.1
  have hc1 : units (meetD a c) = (mt (units a) (units c)).2 := by rw [u2.2]; exact cz_nc _ (nc.mt2 m2.2.2.1)
  have e := comp_zero (meet_good h2).1 (meet_good h3).1 (by rw [z3.1, z2.2.2.1])
  have hj := joins_units (units a) (units b) (units c) hcn nb nc m2.2.2.1 c0.2.2.1
  have hn1 := nI_mt (units a) (units c) m2.2.2.1
  have hn2 := nO_mt (units a) (units c) m2.2.2.1
  have hbc : nI (units b) = nI (mt (units a) (units c)).2 := by rw [← hc1]; exact m3.2.2.1
  have hn3 := nI_mt (units b) (mt (units a) (units c)).2 hbc
  refine ⟨e, ?_, ?_⟩
  · rw [m1.2.2.2.2.2.1, meet1, comp_units h0, hj.1, (comp_chk e).2.2.2.1, u2.1, u3.1, hc1, cmp_cz_cz (by omega)]
  · rw [m1.2.2.2.2.2.2, meet2, comp_units h0, hj.2, m3.2.2.2.2.2.2, meet2, hc1]
end Go.Proofs.Ytchnbmdfpgkefaa
