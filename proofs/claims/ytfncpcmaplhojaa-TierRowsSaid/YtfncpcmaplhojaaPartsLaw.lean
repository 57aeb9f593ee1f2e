/- What comes between revisions, in parts; plain lists, no program. -/
import Derived.Test.YtfncpcmaplhojaaUndoLaw
namespace Go.Proofs.Ytfncpcmaplhojaa
set_option linter.unusedVariables false
set_option linter.unusedSimpArgs false

theorem btw_app : ∀ (l l' : List Rv) (o : List Pt), btw o (l ++ l') = btw (btw o l) l'
  | [], l', o => rfl
  | r :: l, l', o => by simp only [List.cons_append, btw]; exact btw_app l l' _
theorem btw_comp : ∀ (l : List Rv) (o : List Pt) (s : ByteArray), doE o s = 0 → txr (doS o s) l = 0 → btw o l = compL o (btw (allL (doS o s).size) l) ∧ compE o (btw (allL (doS o s).size) l) = 0
  | [], o, s, h, _ => by
    have hk := do_chk h
    have := all_right hk.1
    simp only [btw]
    rw [do_size h]
    exact ⟨this.2.symm, this.1⟩
  | r :: l, o, s, h, h2 => by
    obtain ⟨c1, c2, c3⟩ := btw_step h h2
    have hle := do_le h
    have hda := do_all hle
    obtain ⟨d1, d2, d3⟩ := btw_step hda.1 (show txr (doS (allL (doS o s).size) (doS o s)) (r :: l) = 0 by rw [hda.2]; exact h2)
    have kc := comp_chk c1
    have hr : compL (allL (doS o s).size) r.2.2 = r.2.2 := by
      have := (all_left kc.2.1).2
      have hn : nI (units r.2.2) = (doS o s).size := by rw [← kc.2.2.1, ← do_size h]
      rw [hn] at this
      exact this
    rw [hr] at d2 d3
    have ih1 := btw_comp l (compL o r.2.2) s c2 c3
    have ih2 := btw_comp l r.2.2 (doS o s) d2 d3
    have e := (comp_do h d2).2.2
    rw [e] at ih1
    have hj := joins_left c1 ih2.2
    simp only [btw]
    rw [hr, ih1.1, ih2.1]
    exact ⟨hj.2.2, hj.2.1⟩
theorem parts_law {base : ByteArray} {l : List Rv} (h : txE base l = 0) (p q r : Nat) (hpq : p ≤ q) (hqr : q ≤ r) (hr : r ≤ l.length) :
    compE (btw (allL (txt base l p).size) ((l.drop p).take (q - p))) (btw (allL (txt base l q).size) ((l.drop q).take (r - q))) = 0 ∧
    compL (btw (allL (txt base l p).size) ((l.drop p).take (q - p))) (btw (allL (txt base l q).size) ((l.drop q).take (r - q))) = btw (allL (txt base l p).size) ((l.drop p).take (r - p)) := by
  have hp := txE_parts h
  have h1 := btw_of h p q hpq (by omega)
  have ht := txr_take (l.drop q) (txt base l q) (r - q) (txr_drop l base q hp.2.2)
  have hc := btw_comp ((l.drop q).take (r - q)) _ (txt base l p) h1.1 (by rw [h1.2]; exact ht)
  rw [h1.2] at hc
  refine ⟨hc.2, ?_⟩
  rw [← hc.1, ← btw_app]
  congr 1
  have e : l.drop q = (l.drop p).drop (q - p) := by rw [List.drop_drop, show p + (q - p) = q by omega]
  rw [e, ← List.take_add, show q - p + (r - q) = r - p by omega]
end Go.Proofs.Ytfncpcmaplhojaa
