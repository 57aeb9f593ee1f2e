/- Each block of a level is what comes between its ends (pure). -/
import Derived.Test.YtfncpcmaplhojaaPartsLaw
import Derived.Test.YtfncpcmaplhojaaLevLaw
namespace Go.Proofs.Ytfncpcmaplhojaa
set_option linter.unusedVariables false

def bk (base : ByteArray) (l : List Rv) (p q : Nat) : List Pt := btw (allL (txt base l p).size) ((l.drop p).take (q - p))
theorem bk_one {base : ByteArray} {l : List Rv} (h : txE base l = 0) (k : Nat) (hk : k < l.length) : bk base l k (k + 1) = (l[k]).2.2 := by
  have hp := txE_parts h
  have h5 := txt_size l base k hp.1
  have hda := do_all h5
  have ht := txr_drop l base k hp.2.2
  have hd : l.drop k = l[k] :: l.drop (k + 1) := List.drop_eq_getElem_cons hk
  rw [hd] at ht
  obtain ⟨c1, _, _⟩ := btw_step hda.1 (show txr (doS (allL (txt base l k).size) (txt base l k)) (l[k] :: l.drop (k + 1)) = 0 by rw [hda.2]; exact ht)
  have kc := comp_chk c1
  have hn : nI (units (l[k]).2.2) = (txt base l k).size := by rw [← kc.2.2.1, ← do_size hda.1, hda.2]
  have e := (all_left kc.2.1).2
  rw [hn] at e
  unfold bk
  rw [hd, show k + 1 - k = 1 by omega]
  exact e
theorem lev_bk {base : ByteArray} {l : List Rv} (h : txE base l = 0) : ∀ n k, (k + 1) * 2 ^ n ≤ l.length → (lvl (l.map fun r => r.2.2) n)[k]? = some (bk base l (k * 2 ^ n) ((k + 1) * 2 ^ n))
  | 0, k, hk => by
    simp only [Nat.pow_zero, Nat.mul_one] at hk ⊢
    rw [bk_one h k (by omega)]
    simp only [lvl, List.getElem?_map, List.getElem?_eq_getElem (show k < l.length by omega), Option.map_some]
  | n + 1, k, hk => by
    have e : 2 ^ (n + 1) = 2 * 2 ^ n := by rw [Nat.pow_succ, Nat.mul_comm]
    rw [e] at hk ⊢
    have e1 : k * (2 * 2 ^ n) = 2 * k * 2 ^ n := by rw [← Nat.mul_assoc, Nat.mul_comm k 2]
    have e2 : (k + 1) * (2 * 2 ^ n) = (2 * k + 1 + 1) * 2 ^ n := by rw [← Nat.mul_assoc, show (k + 1) * 2 = 2 * k + 1 + 1 by omega]
    rw [e1, e2]
    rw [e2] at hk
    have h1 : 2 * k * 2 ^ n ≤ (2 * k + 1) * 2 ^ n := Nat.mul_le_mul_right _ (by omega)
    have h2 : (2 * k + 1) * 2 ^ n ≤ (2 * k + 1 + 1) * 2 ^ n := Nat.mul_le_mul_right _ (by omega)
    have a := lev_bk h n (2 * k) (by omega)
    have b := lev_bk h n (2 * k + 1) hk
    have p := parts_law h _ _ _ h1 h2 hk
    have := nxt_at _ k _ _ a b
    rw [lvl, this]
    exact congrArg some p.2
end Go.Proofs.Ytfncpcmaplhojaa
