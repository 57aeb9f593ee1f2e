/- What is left behind revisions that cut nothing, one after the other; plain lists, no program. -/
import Derived.Test.YtchnbmdfpgkefaaUndoLaw
import Derived.Test.YtchnbmdfpgkefaaJoinLaw
namespace Go.Proofs.Ytchnbmdfpgkefaa
set_option linter.unusedVariables false
set_option linter.unusedSimpArgs false

theorem nO_mt_nc (a c : List U) (h : nI a = nI c) : NC c → nO (mt a c).1 = nO a + nP c := by
  refine mt_ind (M := fun a c => NC c → nO (mt a c).1 = nO a + nP c) (fun _ => rfl) ?_ ?_ ?_ ?_ ?_ ?_ _ a c (Nat.le_refl _) h
  · intro b xs ys h ih hc; have := ih hc; simp only [mt, nO] at this ⊢; omega
  · intro xs b ys hx h ih hc; have := ih hc.cons.2; rw [mt_put _ _ _ hx]; simp only [nO, nP] at this ⊢; omega
  · intro xs ys h ih hc; have := ih hc.cons.2; simp only [mt, nO, nP, lead, rst, List.map_nil, List.nil_append] at this ⊢; omega
  · intro xs ys h ih hc; exact absurd rfl hc.cons.1
  · intro xs ys h ih hc; have := ih hc.cons.2; simp only [mt, nO, nP, lead, rst, List.map_nil, List.nil_append] at this ⊢; omega
  · intro xs ys h ih hc; exact absurd rfl hc.cons.1
theorem nc_le : ∀ us : List U, NC us → nI us ≤ nO us
  | [], _ => Nat.le_refl _
  | none :: us, h => by have := nc_le us h.cons.2; simp only [nI, nO]; omega
  | some none :: us, h => absurd rfl h.cons.1
  | some (some b) :: us, h => by have := nc_le us h.cons.2; simp only [nI, nO]; omega
theorem nc_chk {l : List Pt} (h : hasCut l = false) (hk : chk l = 0) : NC (units l) := nc_of h (chk_parts hk).2.2.1
/-- nothing is too large, if the sum is not -/
theorem meet_nc {a c : List Pt} (ha : chk a = 0) (hk : chk c = 0) (hn : nI (units a) = nI (units c)) (hc : NC (units c)) (ho : nO (units a) + nP (units c) ≤ 500) : meetE a c = 0 :=
  meet_zero ha hk hn (by rw [nO_mt_nc _ _ hn hc]; exact ho)
theorem meet_nc_le {a c : List Pt} (h : meetE a c = 0) (hc : NC (units c)) : nO (units a) + nP (units c) ≤ 500 := by
  have hn := (meet_chk h).2.2.1
  have h1 := (chk_parts (meet_good h).1).2.2.2.2.1
  rw [(meet_units h).1, nO_cz, nO_mt_nc _ _ hn hc] at h1
  exact h1
theorem txr_le : ∀ (l : List Rv) (s : ByteArray), txr s l = 0 → (∀ x ∈ l, hasCut x.2.2 = false) → s.size ≤ (txt s l l.length).size
  | [], s, _, _ => by simp [txt]
  | r :: l, s, h, hc => by
    simp only [txr] at h
    split at h
    · omega
    · split at h
      · omega
      · rename_i h1 h2
        have h2' : doE r.2.2 s = 0 := by omega
        have := txr_le l (doS r.2.2 s) h fun x hx => hc x (by simp [hx])
        have hk := do_chk h2'
        have h3 := nc_le _ (nc_chk (hc r (by simp)) hk.1)
        have h4 := do_size h2'
        simp only [txt, List.length_cons]
        omega
theorem each_step {mine : List Pt} {S : ByteArray} (hm : hasCut mine = false) : ∀ (rest : List Rv) (o : List Pt), doE o S = 0 → txr (doS o S) rest = 0 → (∀ x ∈ rest, hasCut x.2.2 = false) → meetE o mine = 0 → meetE (btw o rest) mine = 0 →
    mtE (meetD o mine) rest = 0 ∧ mtL (meetD o mine) rest = meetD (btw o rest) mine
  | [], o, _, _, _, _, _ => ⟨rfl, rfl⟩
  | r :: l, o, h1, h2, h3, h4, h5 => by
    obtain ⟨c1, c2, c3⟩ := btw_step h1 h2
    have hk := meet_chk h4
    have hmn : NC (units mine) := nc_chk hm hk.2.1
    have hr : hasCut r.2.2 = false := h3 r (by simp)
    have h3' : ∀ x ∈ l, hasCut x.2.2 = false := fun x hx => h3 x (by simp [hx])
    have hb := btw_do l (compL o r.2.2) S c2 c3
    have hle := txr_le l (doS (compL o r.2.2) S) c3 h3'
    have hkb := do_chk hb.1
    have h5' : meetE (btw (compL o r.2.2) l) mine = 0 := h5
    have hsz := meet_nc_le h5' hmn
    have e1 : nO (units (btw (compL o r.2.2) l)) = (txt (doS (compL o r.2.2) S) l l.length).size := by rw [← hb.2]; exact (do_size hb.1).symm
    have e2 : nO (units (compL o r.2.2)) = (doS (compL o r.2.2) S).size := (do_size c2).symm
    have e3 := comp_sizes c1
    have kc := comp_chk c1
    have m1 : meetE (compL o r.2.2) mine = 0 := meet_nc kc.2.2.2.2 hk.2.1 (by rw [e3.1]; exact hk.2.2.1) hmn (by omega)
    have hg := meet_good h4
    have hs := meet_sizes h4
    have hdn : NC (units (meetD o mine)) := by
      have h7 := NC.mt2 (a := units o) hmn hk.2.2.1
      rw [(meet_units h4).2, cz_nc _ h7]
      exact h7
    have m3 : meetE r.2.2 (meetD o mine) = 0 := meet_nc kc.2.1 hg.2 (by rw [hs.2.1, kc.2.2.1]) hdn (by rw [hs.2.2.2.2, ← e3.2]; omega)
    have hj := meet_joins c1 hr hm m1 h4 m3
    have ih := each_step hm l (compL o r.2.2) c2 c3 h3' m1 h5'
    simp only [mtE, mtL, btw]
    rw [if_neg (by omega), ← hj.2.2]
    exact ih
theorem catch_each {mine : List Pt} {S : ByteArray} (hm : hasCut mine = false) (rest : List Rv) (h1 : txr S rest = 0) (hS : S.size ≤ 500) (h2 : ∀ x ∈ rest.tail, hasCut x.2.2 = false) (h3 : doE mine S = 0) (h4 : meetE (btw (allL S.size) rest) mine = 0) :
    mtE mine rest = 0 ∧ mtL mine rest = meetD (btw (allL S.size) rest) mine := by
  have hd := do_chk h3
  have hal := meet_all_left hd.1
  rw [hd.2.1] at hal
  have hda := do_all hS
  cases rest with
  | nil => exact ⟨rfl, hal.2.2.symm⟩
  | cons r l =>
    obtain ⟨c1, c2, c3⟩ := btw_step hda.1 (show txr (doS (allL S.size) S) (r :: l) = 0 by rw [hda.2]; exact h1)
    have h2' : ∀ x ∈ l, hasCut x.2.2 = false := h2
    have kc := comp_chk c1
    have hr : compL (allL S.size) r.2.2 = r.2.2 := by
      have := (all_left kc.2.1).2
      have hn : nI (units r.2.2) = S.size := by rw [← kc.2.2.1, ← do_size hda.1, hda.2]
      rw [hn] at this
      exact this
    rw [hr] at c2 c3
    have hmn : NC (units mine) := nc_chk hm hd.1
    have h4' : meetE (btw r.2.2 l) mine = 0 := by have h5 := h4; simp only [btw] at h5; rw [hr] at h5; exact h5
    have hb := btw_do l r.2.2 S c2 c3
    have hle := txr_le l (doS r.2.2 S) c3 h2'
    have hsz := meet_nc_le h4' hmn
    have e1 : nO (units (btw r.2.2 l)) = (txt (doS r.2.2 S) l l.length).size := by rw [← hb.2]; exact (do_size hb.1).symm
    have e2 := do_size c2
    have hk := do_chk c2
    have m1 : meetE r.2.2 mine = 0 := meet_nc hk.1 hd.1 (by rw [hk.2.1, hd.2.1]) hmn (by omega)
    have ih := each_step hm l r.2.2 c2 c3 h2' m1 h4'
    simp only [mtE, mtL, btw]
    rw [if_neg (by omega), hr]
    exact ih
end Go.Proofs.Ytchnbmdfpgkefaa
