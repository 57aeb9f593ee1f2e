/- What undo.Of says, and what comes between two revisions; plain lists, no program. What comes between revisions, in parts; plain lists, no program. The levels of tier.Build as lists (pure). Each block of a level is what comes between its ends (pure). The tiers of a history as lists, and that their joining never fails (pure). Contracts of revs.One, texts, Check, Text. -/
import Derived.Test.YtfncpcmaplhojaaMTierOwn12
import Derived.Test.YtfncpcmaplhojaaMTierOwn10
import Derived.Test.YtfncpcmaplhojaaMTierOwn8
namespace Go.Proofs.Ytfncpcmaplhojaa
set_option linter.unusedVariables false
set_option linter.unusedSimpArgs false

/-- what is left of a delta behind revisions -/
def mtE : List Pt → List Rv → Int
  | _, [] => 0
  | o, r :: l => if meetE r.2.2 o ≠ 0 then meetE r.2.2 o else mtE (meetD r.2.2 o) l
def mtL : List Pt → List Rv → List Pt
  | o, [] => o
  | o, r :: l => mtL (meetD r.2.2 o) l
theorem mt_step {o : List Pt} {r : Rv} {l : List Rv} {E : Int} {R : List Pt} (h : mtE o (r :: l) = E ∧ (E = 0 → mtL o (r :: l) = R)) :
    (meetE r.2.2 o ≠ 0 → E = meetE r.2.2 o) ∧ (meetE r.2.2 o = 0 → mtE (meetD r.2.2 o) l = E ∧ (E = 0 → mtL (meetD r.2.2 o) l = R)) := by
  obtain ⟨h1, h2⟩ := h
  simp only [mtE] at h1
  refine ⟨fun h3 => ?_, fun h3 => ?_⟩
  · rw [if_pos h3] at h1; exact h1.symm
  · rw [if_neg (by omega)] at h1; exact ⟨h1, h2⟩
theorem txr_at : ∀ (l : List Rv) (s : ByteArray) (k : Nat) (h : k < l.length), txr s l = 0 → oneE l[k] = 0 ∧ doE (l[k]).2.2 (txt s l k) = 0 ∧ txt s l (k + 1) = doS (l[k]).2.2 (txt s l k)
  | [], s, k, h, _ => absurd h (by simp)
  | r :: l, s, 0, _, h => by
    simp only [txr] at h
    split at h
    · omega
    · split at h
      · omega
      · rename_i h1 h2
        refine ⟨by simpa using h1, by simpa [txt] using h2, ?_⟩
        cases l <;> simp [txt]
  | r :: l, s, k + 1, hk, h => by
    simp only [txr] at h
    split at h
    · omega
    · split at h
      · omega
      · have := txr_at l (doS r.2.2 s) k (by simpa using hk) h
        simpa [txt] using this
theorem mt_good : ∀ (l : List Rv) (o : List Pt), chk o = 0 → mtE o l = 0 → chk (mtL o l) = 0 ∧ nP (units (mtL o l)) = nP (units o)
  | [], o, h, _ => ⟨h, rfl⟩
  | r :: l, o, h, h2 => by
    simp only [mtE] at h2
    split at h2
    · omega
    · rename_i h3
      have h3' : meetE r.2.2 o = 0 := by omega
      have := mt_good l (meetD r.2.2 o) (meet_good h3').2 h2
      simp only [mtL]
      exact ⟨this.1, by rw [this.2, (meet_sizes h3').2.2.2.2]⟩
/-- bytes that are cut -/
def nC : List U → Nat
  | [] => 0
  | some none :: r => nC r + 1
  | _ :: r => nC r
theorem nC_append (a b : List U) : nC (a ++ b) = nC a + nC b := by
  induction a with
  | nil => simp [nC]
  | cons u a ih => rcases u with _ | _ | x <;> simp [nC, ih] <;> omega
theorem nP_tn : ∀ (us : List U) (s : List UInt8), nI us = s.length → nP (tn us s) = nC us
  | [], s, _ => by simp [tn, nP, nC]
  | none :: us, [], h => by simp [nI] at h
  | none :: us, x :: s, h => by simp only [tn, nP, nC]; exact nP_tn us s (by simpa [nI] using h)
  | some none :: us, [], h => by simp [nI] at h
  | some none :: us, x :: s, h => by simp only [tn, nP, nC]; rw [nP_tn us s (by simpa [nI] using h)]
  | some (some b) :: us, s, h => by
    have := nP_tn us s (by simpa [nI] using h)
    cases s <;> simpa [tn, nP, nC] using this
def szC : List Pt → Int
  | [] => 0
  | p :: l => (if p.1 = 3 then p.2.1 else 0) + szC l
theorem nC_units : ∀ (l : List Pt), Fine l → (nC (units l) : Int) = szC l
  | [], _ => rfl
  | p :: l, h => by
    have h2 := nC_units l fun q hq => h q (by simp [hq])
    have hr (u : U) (hu : nC [u] = 0) (n : Nat) : nC (List.replicate n u) = 0 := by
      induction n with
      | zero => rfl
      | succ n ih => rw [List.replicate_succ, show u :: List.replicate n u = [u] ++ List.replicate n u from rfl, nC_append, ih, hu]
    have hcn (n : Nat) : nC (List.replicate n (some none)) = n := by
      induction n with
      | zero => rfl
      | succ n ih => rw [List.replicate_succ]; simp only [nC]; rw [ih]
    have hp : ∀ l : List UInt8, nC (l.map (fun b => (some (some b) : U))) = 0 := by
      intro l
      induction l with
      | nil => rfl
      | cons x l ih => simpa [nC] using ih
    have h1 : (nC (up p) : Int) = if p.1 = 3 then p.2.1 else 0 := by
      obtain ⟨k, n, t⟩ := p
      rcases h (k, n, t) (by simp) with ⟨h1 | h1, h4, h3⟩ | ⟨h1, _, _⟩
      · simp only at h1 h3; subst h1
        simp only [up, if_true]
        rw [hr _ rfl]; rfl
      · simp only at h1 h3 h4; subst h1
        rw [show up ((3, n, t) : Pt) = List.replicate n.toNat (some none) from rfl, hcn]
        simp only [if_true]
        omega
      · simp only at h1; subst h1
        rw [show up ((2, n, t) : Pt) = t.data.toList.map (fun b => some (some b)) from rfl, hp]; rfl
    rw [units_cons, nC_append]
    simp only [szC]
    omega
theorem undo_puts {d : List Pt} {s : ByteArray} (h : doE d s = 0) (l : List Rv) (hm : mtE (turnL d s) l = 0) : szP (mtL (turnL d s) l) = szC d := by
  obtain ⟨t1, t2, t3, _⟩ := turn_ok h
  obtain ⟨hk, hn, _, _⟩ := do_chk h
  have g := mt_good l (turnL d s) t2 hm
  have e : nP (units (turnL d s)) = nC (units d) := by rw [t3, nP_cz, nP_tn _ _ hn]
  rw [← nP_units _ (chk_parts g.1).2.2.1, g.2, e, nC_units _ (chk_parts hk).2.2.1]
/-- what comes between revisions -/
def btw : List Pt → List Rv → List Pt
  | o, [] => o
  | o, r :: l => btw (compL o r.2.2) l
theorem btw_do : ∀ (l : List Rv) (o : List Pt) (s : ByteArray), doE o s = 0 → txr (doS o s) l = 0 → doE (btw o l) s = 0 ∧ doS (btw o l) s = txt (doS o s) l l.length
  | [], o, s, h, _ => ⟨h, rfl⟩
  | r :: l, o, s, h, h2 => by
    simp only [txr] at h2
    split at h2
    · omega
    · split at h2
      · omega
      · rename_i h3 h4
        obtain ⟨c1, c2, c3⟩ := comp_do h (b := r.2.2) (by omega)
        have := btw_do l (compL o r.2.2) s c2 (by rw [c3]; exact h2)
        simp only [btw, txt, List.length_cons]
        rw [c3] at this
        exact this
theorem btw_step {o : List Pt} {r : Rv} {l : List Rv} {s : ByteArray} (h : doE o s = 0) (h2 : txr (doS o s) (r :: l) = 0) : compE o r.2.2 = 0 ∧ doE (compL o r.2.2) s = 0 ∧ txr (doS (compL o r.2.2) s) l = 0 := by
  simp only [txr] at h2
  split at h2
  · omega
  · split at h2
    · omega
    · obtain ⟨c1, c2, c3⟩ := comp_do h (b := r.2.2) (by omega)
      exact ⟨c1, c2, by rw [c3]; exact h2⟩
theorem btw_of {base : ByteArray} {l : List Rv} (h : txE base l = 0) (i k : Nat) (hik : i ≤ k) (hk : k ≤ l.length) :
    doE (btw (allL (txt base l i).size) ((l.drop i).take (k - i))) (txt base l i) = 0 ∧ doS (btw (allL (txt base l i).size) ((l.drop i).take (k - i))) (txt base l i) = txt base l k := by
  have hp := txE_parts h
  have h5 := txt_size l base i hp.1
  have hd := do_all h5
  have ht := txr_take (l.drop i) (txt base l i) (k - i) (txr_drop l base i hp.2.2)
  have := btw_do ((l.drop i).take (k - i)) (allL (txt base l i).size) (txt base l i) hd.1 (by rw [hd.2]; exact ht)
  rw [hd.2] at this
  refine ⟨this.1, this.2.trans ?_⟩
  have e : ((l.drop i).take (k - i)).length = k - i := by rw [List.length_take, List.length_drop]; omega
  rw [e, txt_take _ _ _ _ (Nat.le_refl _), txt_drop, show i + (k - i) = k by omega]
end Go.Proofs.Ytfncpcmaplhojaa
namespace Go.Proofs.Ytfncpcmaplhojaa
set_option linter.unusedVariables false
set_option linter.unusedSimpArgs false

theorem btw_app : ∀ (l l' : List Rv) (o : List Pt), btw o (l ++ l') = btw (btw o l) l'
  | [], l', o => rfl
  | r :: l, l', o => by simp only [List.cons_append, btw]; exact btw_app l l' _
theorem btw_comp : ∀ (l : List Rv) (o : List Pt) (s : ByteArray), doE o s = 0 → txr (doS o s) l = 0 → btw o l = compL o (btw (allL (doS o s).size) l) ∧ compE o (btw (allL (doS o s).size) l) = 0
  | [], o, s, h, _ => by
    have hk := do_chk h
    have := all_right hk.1
    simp only [btw]
    rw [do_size h]
    exact ⟨this.2.symm, this.1⟩
  | r :: l, o, s, h, h2 => by
    obtain ⟨c1, c2, c3⟩ := btw_step h h2
    have hle := do_le h
    have hda := do_all hle
    obtain ⟨d1, d2, d3⟩ := btw_step hda.1 (show txr (doS (allL (doS o s).size) (doS o s)) (r :: l) = 0 by rw [hda.2]; exact h2)
    have kc := comp_chk c1
    have hr : compL (allL (doS o s).size) r.2.2 = r.2.2 := by
      have := (all_left kc.2.1).2
      have hn : nI (units r.2.2) = (doS o s).size := by rw [← kc.2.2.1, ← do_size h]
      rw [hn] at this
      exact this
    rw [hr] at d2 d3
    have ih1 := btw_comp l (compL o r.2.2) s c2 c3
    have ih2 := btw_comp l r.2.2 (doS o s) d2 d3
    have e := (comp_do h d2).2.2
    rw [e] at ih1
    have hj := joins_left c1 ih2.2
    simp only [btw]
    rw [hr, ih1.1, ih2.1]
    exact ⟨hj.2.2, hj.2.1⟩
theorem parts_law {base : ByteArray} {l : List Rv} (h : txE base l = 0) (p q r : Nat) (hpq : p ≤ q) (hqr : q ≤ r) (hr : r ≤ l.length) :
    compE (btw (allL (txt base l p).size) ((l.drop p).take (q - p))) (btw (allL (txt base l q).size) ((l.drop q).take (r - q))) = 0 ∧
    compL (btw (allL (txt base l p).size) ((l.drop p).take (q - p))) (btw (allL (txt base l q).size) ((l.drop q).take (r - q))) = btw (allL (txt base l p).size) ((l.drop p).take (r - p)) := by
  have hp := txE_parts h
  have h1 := btw_of h p q hpq (by omega)
  have ht := txr_take (l.drop q) (txt base l q) (r - q) (txr_drop l base q hp.2.2)
  have hc := btw_comp ((l.drop q).take (r - q)) _ (txt base l p) h1.1 (by rw [h1.2]; exact ht)
  rw [h1.2] at hc
  refine ⟨hc.2, ?_⟩
  rw [← hc.1, ← btw_app]
  congr 1
  have e : l.drop q = (l.drop p).drop (q - p) := by rw [List.drop_drop, show p + (q - p) = q by omega]
  rw [e, ← List.take_add, show q - p + (r - q) = r - p by omega]
end Go.Proofs.Ytfncpcmaplhojaa
namespace Go.Proofs.Ytfncpcmaplhojaa
set_option linter.unusedVariables false

/-- the row above a row -/
def nxt : List (List Pt) → List (List Pt)
  | a :: b :: r => compL a b :: nxt r
  | _ => []
theorem nxt_len : ∀ l, (nxt l).length = l.length / 2
  | [] => by simp [nxt]
  | [_] => by simp [nxt]
  | a :: b :: r => by
    simp only [nxt, List.length_cons, nxt_len r]
    omega
theorem nxt_at : ∀ (l : List (List Pt)) (k : Nat) (a b : List Pt), l[2 * k]? = some a → l[2 * k + 1]? = some b → (nxt l)[k]? = some (compL a b)
  | [], k, a, b, h, _ => by simp at h
  | [x], k, a, b, _, h => by
    simp at h
  | x :: y :: r, 0, a, b, h1, h2 => by
    simp at h1 h2
    subst h1; subst h2
    rfl
  | x :: y :: r, k + 1, a, b, h1, h2 => by
    rw [show 2 * (k + 1) = 2 * k + 1 + 1 by omega, List.getElem?_cons_succ, List.getElem?_cons_succ] at h1
    rw [show 2 * (k + 1) + 1 = (2 * k + 1) + 1 + 1 by omega, List.getElem?_cons_succ, List.getElem?_cons_succ] at h2
    simp only [nxt, List.getElem?_cons_succ]
    exact nxt_at r k a b h1 h2
/-- the n-th row -/
def lvl (l : List (List Pt)) : Nat → List (List Pt)
  | 0 => l
  | n + 1 => nxt (lvl l n)
theorem lev_len (l : List (List Pt)) (n : Nat) : (lvl l n).length = l.length / 2 ^ n := by
  induction n with
  | zero => simp [lvl]
  | succ n ih => rw [lvl, nxt_len, ih, Nat.div_div_eq_div_mul, Nat.pow_succ]
end Go.Proofs.Ytfncpcmaplhojaa
namespace Go.Proofs.Ytfncpcmaplhojaa
set_option linter.unusedVariables false

def bk (base : ByteArray) (l : List Rv) (p q : Nat) : List Pt := btw (allL (txt base l p).size) ((l.drop p).take (q - p))
theorem bk_one {base : ByteArray} {l : List Rv} (h : txE base l = 0) (k : Nat) (hk : k < l.length) : bk base l k (k + 1) = (l[k]).2.2 := by
  have hp := txE_parts h
  have h5 := txt_size l base k hp.1
  have hda := do_all h5
  have ht := txr_drop l base k hp.2.2
  have hd : l.drop k = l[k] :: l.drop (k + 1) := List.drop_eq_getElem_cons hk
  rw [hd] at ht
  obtain ⟨c1, _, _⟩ := btw_step hda.1 (show txr (doS (allL (txt base l k).size) (txt base l k)) (l[k] :: l.drop (k + 1)) = 0 by rw [hda.2]; exact ht)
  have kc := comp_chk c1
  have hn : nI (units (l[k]).2.2) = (txt base l k).size := by rw [← kc.2.2.1, ← do_size hda.1, hda.2]
  have e := (all_left kc.2.1).2
  rw [hn] at e
  unfold bk
  rw [hd, show k + 1 - k = 1 by omega]
  exact e
theorem lev_bk {base : ByteArray} {l : List Rv} (h : txE base l = 0) : ∀ n k, (k + 1) * 2 ^ n ≤ l.length → (lvl (l.map fun r => r.2.2) n)[k]? = some (bk base l (k * 2 ^ n) ((k + 1) * 2 ^ n))
  | 0, k, hk => by
    simp only [Nat.pow_zero, Nat.mul_one] at hk ⊢
    rw [bk_one h k (by omega)]
    simp only [lvl, List.getElem?_map, List.getElem?_eq_getElem (show k < l.length by omega), Option.map_some]
  | n + 1, k, hk => by
    have e : 2 ^ (n + 1) = 2 * 2 ^ n := by rw [Nat.pow_succ, Nat.mul_comm]
    rw [e] at hk ⊢
    have e1 : k * (2 * 2 ^ n) = 2 * k * 2 ^ n := by rw [← Nat.mul_assoc, Nat.mul_comm k 2]
    have e2 : (k + 1) * (2 * 2 ^ n) = (2 * k + 1 + 1) * 2 ^ n := by rw [← Nat.mul_assoc, show (k + 1) * 2 = 2 * k + 1 + 1 by omega]
    rw [e1, e2]
    rw [e2] at hk
    have h1 : 2 * k * 2 ^ n ≤ (2 * k + 1) * 2 ^ n := Nat.mul_le_mul_right _ (by omega)
    have h2 : (2 * k + 1) * 2 ^ n ≤ (2 * k + 1 + 1) * 2 ^ n := Nat.mul_le_mul_right _ (by omega)
    have a := lev_bk h n (2 * k) (by omega)
    have b := lev_bk h n (2 * k + 1) hk
    have p := parts_law h _ _ _ h1 h2 hk
    have := nxt_at _ k _ _ a b
    rw [lvl, this]
    exact congrArg some p.2
end Go.Proofs.Ytfncpcmaplhojaa
namespace Go.Proofs.Ytfncpcmaplhojaa
set_option linter.unusedVariables false

def tiersF : Nat → List (List Pt) → List (List (List Pt))
  | 0, _ => []
  | f + 1, r => if r.length = 0 then [] else r :: tiersF f (nxt r)
def tiersL (l : List Rv) : List (List (List Pt)) := tiersF 8 (l.map fun r => r.2.2)
theorem lev_nxt (l : List (List Pt)) : ∀ n, lvl (nxt l) n = nxt (lvl l n)
  | 0 => rfl
  | n + 1 => by rw [lvl, lev_nxt l n]; rfl
theorem tiersF_at : ∀ (f : Nat) (r : List (List Pt)) (n : Nat) (x : List (List Pt)), (tiersF f r)[n]? = some x → x = lvl r n ∧ 0 < x.length
  | 0, r, n, x, h => by simp [tiersF] at h
  | f + 1, r, n, x, h => by
    by_cases h0 : r.length = 0
    · rw [tiersF, if_pos h0] at h; simp at h
    · rw [tiersF, if_neg h0] at h
      match n with
      | 0 =>
        simp only [List.getElem?_cons_zero, Option.some.injEq] at h
        subst h
        exact ⟨rfl, by omega⟩
      | n + 1 =>
        rw [List.getElem?_cons_succ] at h
        have := tiersF_at f _ n x h
        rw [lev_nxt] at this
        exact this
theorem tiersF_len : ∀ (f : Nat) (r : List (List Pt)), r.length < 2 ^ f → r.length / 2 ^ (tiersF f r).length = 0
  | 0, r, h => by simp at h; simp [tiersF, h]
  | f + 1, r, h => by
    by_cases h0 : r.length = 0
    · rw [tiersF, if_pos h0]; simp [h0]
    · rw [tiersF, if_neg h0, List.length_cons]
      have h1 : (nxt r).length < 2 ^ f := by
        rw [nxt_len, Nat.div_lt_iff_lt_mul (by decide)]
        rw [Nat.pow_succ] at h
        exact h
      have := tiersF_len f (nxt r) h1
      rw [nxt_len, Nat.div_div_eq_div_mul] at this
      rw [Nat.pow_succ, Nat.mul_comm]
      exact this
theorem tiersF_le : ∀ (f : Nat) (r : List (List Pt)), (tiersF f r).length ≤ f
  | 0, r => by simp [tiersF]
  | f + 1, r => by
    by_cases h0 : r.length = 0
    · rw [tiersF, if_pos h0]; simp
    · rw [tiersF, if_neg h0, List.length_cons]; have := tiersF_le f (nxt r); omega
theorem tiersF_pos {f : Nat} {r : List (List Pt)} (h : r.length ≠ 0) : 0 < (tiersF (f + 1) r).length := by
  rw [tiersF, if_neg h]; simp
/-- two neighbours of a level are joined without fail -/
theorem lev_comp {base : ByteArray} {l : List Rv} (h : txE base l = 0) (n k : Nat) (a b : List Pt) (ha : (lvl (l.map fun r => r.2.2) n)[2 * k]? = some a)
    (hb : (lvl (l.map fun r => r.2.2) n)[2 * k + 1]? = some b) : compE a b = 0 := by
  have hlen := lev_len (l.map fun r => r.2.2) n
  rw [List.length_map] at hlen
  have hlt : 2 * k + 1 < l.length / 2 ^ n := by
    rw [← hlen]
    exact (List.getElem?_eq_some_iff.1 hb).1
  have hm : (2 * k + 1 + 1) * 2 ^ n ≤ l.length := by
    have := Nat.div_mul_le_self l.length (2 ^ n)
    have h2 : (2 * k + 1 + 1) * 2 ^ n ≤ l.length / 2 ^ n * 2 ^ n := Nat.mul_le_mul_right _ (by omega)
    omega
  have h1 : 2 * k * 2 ^ n ≤ (2 * k + 1) * 2 ^ n := Nat.mul_le_mul_right _ (by omega)
  have h2 : (2 * k + 1) * 2 ^ n ≤ (2 * k + 1 + 1) * 2 ^ n := Nat.mul_le_mul_right _ (by omega)
  have ea := lev_bk h n (2 * k) (by omega)
  have eb := lev_bk h n (2 * k + 1) hm
  rw [ea] at ha
  rw [eb] at hb
  injection ha with ha
  injection hb with hb
  subst ha; subst hb
  exact (parts_law h _ _ _ h1 h2 hm).1
end Go.Proofs.Ytfncpcmaplhojaa
namespace Go.Proofs.Ytfncpcmaplhojaa
open Go.ChangeShapes Go.WideShapes Go.RowKit
set_option linter.unusedVariables false
set_option linter.unusedSimpArgs false
set_option maxRecDepth 100000
set_option maxHeartbeats 4000000

abbrev Sl := Option Addr × Nat × Nat
def rvcells (r : Rv) (s : Sl) : List Value := [.int .i64 r.1, .int .i64 r.2.1, .slice s.1 s.2.1 s.2.2]
def rc : List Rv → List Sl → List Value
  | r :: l, s :: ss => rvcells r s ++ rc l ss
  | _, _ => []
theorem rc_len : ∀ (l : List Rv) (ss : List Sl), ss.length = l.length → (rc l ss).length = l.length * 3
  | [], [], _ => rfl
  | [], _ :: _, h => by simp at h
  | _ :: _, [], h => by simp at h
  | r :: l, s :: ss, h => by simp only [rc, List.length_append, rvcells, List.length_cons, List.length_nil]; rw [rc_len l ss (by simpa using h)]; omega
theorem rc_at : ∀ (l : List Rv) (ss : List Sl) (hs : ss.length = l.length) (k : Nat) (h : k < l.length), (rc l ss)[k * 3]? = some (.int .i64 l[k].1) ∧ (rc l ss)[k * 3 + 1]? = some (.int .i64 l[k].2.1) ∧
    (rc l ss)[k * 3 + 2]? = some (.slice (ss[k]'(by omega)).1 (ss[k]'(by omega)).2.1 (ss[k]'(by omega)).2.2)
  | [], _, _, k, h => absurd h (by simp)
  | _ :: _, [], h, _, _ => by simp at h
  | r :: l, s :: ss, hs, 0, h => ⟨rfl, rfl, rfl⟩
  | r :: l, s :: ss, hs, k + 1, h => by
    have := rc_at l ss (by simpa using hs) k (by simpa using h)
    have e (j : Nat) : (rc (r :: l) (s :: ss))[(k + 1) * 3 + j]? = (rc l ss)[k * 3 + j]? := by
      simp only [rc]
      rw [List.getElem?_append_right (by simp [rvcells]; omega)]
      congr 1
      simp [rvcells]; omega
    have e0 := e 0
    simp only [Nat.add_zero] at e0
    rw [e0, e 1, e 2]
    exact this
/-- the slice reads as the history -/
def RdR (w : World) (B : Nat) (A : Option Addr) (n c : Nat) (l : List Rv) : Prop :=
  n = l.length ∧ ∃ ss : List Sl, ∃ hs : ss.length = l.length, Rd w B 3 A n c (rc l ss) ∧ ∀ k (h : k < l.length), RdP w B (ss[k]'(by omega)).1 (ss[k]'(by omega)).2.1 (ss[k]'(by omega)).2.2 l[k].2.2
section
variable {w w' : World} {B B' n c : Nat} {A : Option Addr} {l : List Rv}
theorem RdR.at_ (h : RdR w B A n c l) (k : Nat) (hk : k < n) :
    ∃ b o A1 n1 c1, A = some ⟨b, o, none⟩ ∧ b < B ∧ w.cell? ⟨b, o + k * 3, none⟩ = some (.int .i64 (l[k]'(by have := h.1; omega)).1) ∧ w.cell? ⟨b, o + k * 3 + 1, none⟩ = some (.int .i64 (l[k]'(by have := h.1; omega)).2.1) ∧
      w.cell? ⟨b, o + k * 3 + 2, none⟩ = some (.slice A1 n1 c1) ∧ RdP w B A1 n1 c1 (l[k]'(by have := h.1; omega)).2.2 := by
  obtain ⟨h0, ss, hs, hr, hp⟩ := h
  obtain ⟨b, o, e, hb, hc⟩ := hr.2.2.2 (by omega)
  obtain ⟨h1, h2, h3⟩ := rc_at l ss hs k (by omega)
  refine ⟨b, o, _, _, _, e, hb, hc _ _ h1, ?_, ?_, hp k (by omega)⟩
  · have := hc _ _ h2; rwa [← Nat.add_assoc] at this
  · have := hc _ _ h3; rwa [← Nat.add_assoc] at this
theorem RdR.below (h : RdR w B A n c l) (hb : Below B w w') : RdR w' B A n c l := by
  obtain ⟨h0, ss, hs, hr, hp⟩ := h
  exact ⟨h0, ss, hs, hr.below hb, fun k hk => (hp k hk).below hb⟩
theorem RdR.more (h : RdR w B A n c l) (hB : B ≤ B') : RdR w B' A n c l := by
  obtain ⟨h0, ss, hs, hr, hp⟩ := h
  exact ⟨h0, ss, hs, hr.more hB, fun k hk => (hp k hk).more hB⟩
theorem RdR.step (h : RdR w w.heap.size A n c l) (hb : Below w.heap.size w w') : RdR w' w'.heap.size A n c l := (h.below hb).more hb.size
theorem RdR.alloc (h : RdR w B A n c l) (hB : B ≤ w.heap.size) (o : Obj) : RdR (w.alloc o) B A n c l := h.below ((Below.refl B w).alloc hB o)
theorem RdR.stepA (h : RdR w w.heap.size A n c l) (o : Obj) : RdR (w.alloc o) (w.alloc o).heap.size A n c l := (h.alloc (Nat.le_refl _) o).more (by simp)
theorem RdR.le (h : RdR w B A n c l) : n ≤ 9223372036854775807 := by obtain ⟨h0, ss, hs, hr, hp⟩ := h; have := hr.1; have := hr.2.1; unfold maxLen at this; omega
theorem RdR.caps (h : RdR w B A n c l) : n ≤ c ∧ c ≤ 9223372036854775807 := by obtain ⟨h0, ss, hs, hr, hp⟩ := h; have h1 := hr.1; have h2 := hr.2.1; unfold maxLen at h2; exact ⟨h1, h2⟩
theorem RdR.nil (w : World) (B : Nat) : RdR w B none 0 0 [] := ⟨rfl, [], rfl, Rd.nil _ _ _, fun k h => absurd h (by simp)⟩
theorem rc_take : ∀ (l : List Rv) (ss : List Sl) (k : Nat), ss.length = l.length → rc (l.take k) (ss.take k) = (rc l ss).take (k * 3)
  | [], [], k, _ => by simp [rc]
  | [], _ :: _, _, h => by simp at h
  | _ :: _, [], _, h => by simp at h
  | r :: l, s :: ss, 0, h => by simp [rc]
  | r :: l, s :: ss, k + 1, h => by
    simp only [List.take_succ_cons, rc]
    rw [rc_take l ss k (by simpa using h), show (k + 1) * 3 = 3 + k * 3 by omega, List.take_append, show (rvcells r s).length = 3 from rfl, show 3 + k * 3 - 3 = k * 3 by omega]
    congr 1
    rw [List.take_of_length_le (by simp [rvcells])]
theorem rc_drop : ∀ (l : List Rv) (ss : List Sl) (k : Nat), ss.length = l.length → rc (l.drop k) (ss.drop k) = (rc l ss).drop (k * 3)
  | [], [], k, _ => by simp [rc]
  | [], _ :: _, _, h => by simp at h
  | _ :: _, [], _, h => by simp at h
  | r :: l, s :: ss, 0, h => by simp [rc]
  | r :: l, s :: ss, k + 1, h => by
    simp only [List.drop_succ_cons, rc]
    rw [rc_drop l ss k (by simpa using h), show (k + 1) * 3 = 3 + k * 3 by omega, ← List.drop_drop]
    congr 1
theorem RdR.take (h : RdR w B A n c l) (k : Nat) (hk : k ≤ n) : RdR w B A k c (l.take k) := by
  obtain ⟨h0, ss, hs, hr, hp⟩ := h
  refine ⟨by rw [List.length_take]; omega, ss.take k, by rw [List.length_take, List.length_take]; omega, ⟨by have := hr.1; omega, hr.2.1, ?_, fun h1 => ?_⟩, fun j hj => ?_⟩
  · rw [rc_take l ss k hs, List.length_take, rc_len l ss hs]; omega
  · obtain ⟨b, o, e, hb, hc⟩ := hr.2.2.2 (by omega)
    refine ⟨b, o, e, hb, fun j u hj => hc j u ?_⟩
    rw [rc_take l ss k hs, List.getElem?_take] at hj
    split at hj
    · exact hj
    · cases hj
  · rw [List.length_take] at hj
    have := hp j (by omega)
    simpa [List.getElem_take] using this
theorem RdR.drop (h : RdR w B A n c l) (k : Nat) (hk : k ≤ n) (A' : Option Addr) (hA : k < n → ∀ b o, A = some ⟨b, o, none⟩ → A' = some ⟨b, o + k * 3, none⟩) : RdR w B A' (n - k) (c - k) (l.drop k) := by
  obtain ⟨h0, ss, hs, hr, hp⟩ := h
  refine ⟨by rw [List.length_drop]; omega, ss.drop k, by rw [List.length_drop, List.length_drop]; omega, ⟨by have := hr.1; omega, by have := hr.2.1; omega, ?_, fun h1 => ?_⟩, fun j hj => ?_⟩
  · rw [rc_drop l ss k hs, List.length_drop, rc_len l ss hs, h0, Nat.sub_mul]
  · obtain ⟨b, o, e, hb, hc⟩ := hr.2.2.2 (by omega)
    refine ⟨b, o + k * 3, hA (by omega) b o e, hb, fun j u hj => ?_⟩
    rw [rc_drop l ss k hs, List.getElem?_drop] at hj
    have := hc _ u hj
    rwa [← Nat.add_assoc] at this
  · rw [List.length_drop] at hj
    have := hp (k + j) (by omega)
    simpa [List.getElem_drop] using this
end
theorem one_any (a b : Int) (d : List Pt) (A : Option Addr) (n c B : Nat) (r : Int) (w : World) (h : RdP w B A n c d) (hB : B ≤ w.heap.size) (hr : oneE (a, b, d) = r) :
    Calls Try.prog 81 #[.agg #[.int .i64 a, .int .i64 b, .slice A n c]] w fun e w' => e = .returned (.int .i64 r) ∧ Below w.heap.size w w' := by
  have hbb := (Below.refl w.heap.size w).alloc (Nat.le_refl _) (.cells #[.int .i64 a, .int .i64 b, .slice A n c] 29)
  have H := Lib.hid (h.alloc hB (.cells #[.int .i64 a, .int .i64 b, .slice A n c] 29))
  by_cases hbad : a < 0 ∨ 7 < a ∨ b < 0 ∨ 2147483647 < b
  · obtain rfl : r = 1 := by rw [← hr]; unfold oneE; rw [if_pos hbad]
    clear hr h
    rcases (show a < 0 ∨ (0 ≤ a ∧ 7 < a) ∨ (0 ≤ a ∧ a ≤ 7 ∧ b < 0) ∨ (0 ≤ a ∧ a ≤ 7 ∧ 0 ≤ b ∧ 2147483647 < b) by omega) with h1 | ⟨h1, h2⟩ | ⟨h1, h2, h3⟩ | ⟨h1, h2, h3, h4⟩
    all_goals
      clear hbad
      go_enter Try.func81, Try.ntmps81
      go_wp2_with fail
      go_ret
      exact ⟨rfl, hbb⟩
  · obtain rfl : chk d = r := by rw [← hr]; unfold oneE; rw [if_neg hbad]
    have h1 : 0 ≤ a := by omega
    have h2 : a ≤ 7 := by omega
    have h3 : 0 ≤ b := by omega
    have h4 : b ≤ 2147483647 := by omega
    have hBB := hbb.size
    clear hr h hbad
    go_enter Try.func81, Try.ntmps81
    go_wp2_with fail
    refine (chk_any d A n c B _ H.out (by simp; omega)).mono ?_
    rintro e w1 ⟨rfl, hb1⟩
    have hw1 := hbb.trans (hb1.mono hbb.size)
    go_wp2_with fail
    go_ret
    exact ⟨rfl, hw1⟩
/-- a row of strings of the call's own -/
def OwnS (w : World) (B : Nat) (v : Value) (l : List ByteArray) : Prop := w.ownsRow B 9 1 v l.length (l.map .string)
theorem Try.info_string : (Try.prog.info? 9).map (fun i => (i.zero, i.size, i.bytes)) = some (some (.string ⟨#[]⟩), 1, 16) := by kernel_rfl
theorem OwnS.form_ {w : World} {B n : Nat} {v : Value} {l : List ByteArray} (h : OwnS w B v l) (hn : l.length = n) : ∃ A c, v = .slice A n c := by
  subst hn
  rcases h.2 with ⟨rfl, h0⟩ | ⟨g, cap, cur, rfl, _⟩
  · exact ⟨none, 0, by rw [h0]⟩
  · exact ⟨_, _, rfl⟩
theorem wpList_app_strg {ops : Array Oper} {rest : List Oper} {o : Oper} {a : Act} {Q : Exit → Act → World → Prop} (w : World) (hgd : o.guard = none) (s x : Operand)
    (ho : o.op = .call { callee := .builtin .append, args := #[s, x], argTypes := #[100, 100] })
    (B : Nat) (v : Value) (l : List ByteArray) (hs : a.eval s = v) (hown : OwnS w B v l)
    (u : ByteArray) (c : Nat) (hx : a.eval x = .slice (some ⟨w.heap.size, 0, none⟩) 1 c)
    (hn : l.length ≤ 100000000) (hB : B ≤ w.heap.size)
    (h : ∀ v' w', OwnS w' B v' (l ++ [u]) → Below B w w' → w.grownBy w' v.ownBlock → wpList Try.prog ops Q rest (a.put o.dst v') w') :
    wpList Try.prog ops Q (o :: rest) a (w.alloc (.cells #[.string u] 9)) := by
  obtain ⟨i0, hi, hz0, hz1, hz2⟩ := info_parts Try.info_string
  refine wpList_app1 w hgd s x 100 ho B 9 i0 _ 1 16 Try.underlying100 hi hz0 hz1 hz2 rfl (by omega) (by omega) v _ _ hs hown _ c hx rfl (by simp [Value.oneCell']) hn hB ?_
  intro v' w' h1 h2 h3 h4
  exact h v' w' (by unfold OwnS; rw [List.map_append, List.length_append]; exact h1) h2 h3
theorem ownS_one (w : World) (s : ByteArray) (B : Nat) (hB : B ≤ w.heap.size) : OwnS (w.alloc (.cells #[.string s] 9)) B (.slice (some ⟨w.heap.size, 0, none⟩) 1 1) [s] := by
  refine ⟨by simp, .inr ⟨w.heap.size, 1, #[.string s], rfl, hB, heap_alloc_new w _, by simp, by decide, by simp, by simp⟩⟩
theorem texts_large (base : ByteArray) (l : List Rv) (A : Option Addr) (n c B : Nat) (w : World) (h : RdR w B A n c l) (hbs : base.size ≤ 9223372036854775807) (he : 500 < (base.size : Int) ∨ 64 < (n : Int)) :
    Calls Try.prog 59 #[.string base, .slice A n c] w fun e w' => e = .returned (.tuple #[.slice none 0 0, .int .i64 2]) ∧ Below w.heap.size w w' := by
  have hle := h.le
  clear h
  rcases (show 500 < (base.size : Int) ∨ ((base.size : Int) ≤ 500 ∧ 64 < (n : Int)) by omega) with h1 | ⟨h1, h2⟩
  all_goals
    clear he
    go_enter Try.func59, Try.ntmps59
    go_wp2_with fail
    go_ret2
    exact ⟨rfl, Below.refl _ _⟩
theorem texts_any (base : ByteArray) (l : List Rv) (A : Option Addr) (n c B : Nat) (w : World) (h : RdR w B A n c l) (hB : B ≤ w.heap.size) (hbs : base.size ≤ 9223372036854775807) :
    Calls Try.prog 59 #[.string base, .slice A n c] w fun e w' => ∃ A1 n1 c1, e = .returned (.tuple #[.slice A1 n1 c1, .int .i64 (txE base l)]) ∧ (txE base l = 0 → OwnS w' w.heap.size (.slice A1 n1 c1) (txs base l)) ∧ Below w.heap.size w w' := by
  by_cases hlarge : 500 < (base.size : Int) ∨ 64 < (n : Int)
  · have e2 : txE base l = 2 := by unfold txE; rw [if_pos (by have := h.1; omega)]
    rw [e2]
    refine (texts_large base l A n c B w h hbs hlarge).mono ?_
    rintro e w' ⟨rfl, hb⟩
    exact ⟨_, _, _, rfl, fun h => absurd h (by decide), hb⟩
  have hb5 : (base.size : Int) ≤ 500 := by omega
  have hn64 : (n : Int) ≤ 64 := by omega
  have e0 : txE base l = txr base l := by unfold txE; rw [if_neg (by have := h.1; omega)]
  rw [e0]
  obtain ⟨E, hE⟩ : ∃ E, txr base l = E := ⟨_, rfl⟩
  rw [hE]
  have H := Lib.hid h
  obtain ⟨T, hT⟩ : ∃ T, txs base l = T := ⟨_, rfl⟩
  rw [hT]
  have Hst : Hid (txr base (l.drop 0) = E ∧ ([] : List ByteArray) ++ txs base (l.drop 0) = T) := Lib.hid ⟨hE, hT⟩
  clear h hlarge e0 hE hT
  have hbb := (Below.refl w.heap.size w).alloc (Nat.le_refl _) (.cells #[.string base] 9)
  have Hown := Lib.hid (ownS_one w base w.heap.size (Nat.le_refl _))
  go_enter Try.func59, Try.ntmps59
  go_wp2_with fail
  go_loopw [6, 8, 9, 10, 11, 24] (fun ov pv e1 sv e2 i wr => ∃ (k m c1 : Nat) (g : Nat) (pre : List ByteArray) (last : ByteArray), k ≤ n ∧ i = .int .i64 k ∧ m = k + 1 ∧ ov = .slice (some ⟨g, 0, none⟩) m c1 ∧ last.size ≤ 500 ∧ pre.length = k ∧ Hid (OwnS wr w.heap.size (.slice (some ⟨g, 0, none⟩) m c1) (pre ++ [last])) ∧ Hid (txr last (l.drop k) = E ∧ pre ++ txs last (l.drop k) = T) ∧ Below w.heap.size w wr) (fun _ _ _ _ _ i _ => n - (intOf i).toNat)
  case atStart => exact ⟨0, 1, 1, _, [], base, by omega, rfl, rfl, rfl, by omega, rfl, Hown, Hst, hbb⟩
  case round =>
    obtain ⟨k, m, c1, g, pre, last, hk, rfl, hm, rfl, hl5, hpl, hown, hst, hbw⟩ := hrel
    have Hm := Lib.hid hm
    clear hm
    by_cases hlt : k < n
    · have hkl : k < l.length := by have := H.out.1; omega
      obtain ⟨b, o, A1, n1, d1, rfl, hb, c0, c1_, c2, hrd⟩ := (H.out.below (hbw.mono hB)).at_ k hlt
      have hdr : l.drop k = l[k] :: l.drop (k + 1) := List.drop_eq_getElem_cons hkl
      rw [hdr] at hst
      have hstep := Lib.hid (txr_step hst.out.1)
      obtain ⟨r, hr⟩ : ∃ r, r = l[k] := ⟨_, rfl⟩
      rw [← hr] at hst hstep c0 c1_ hrd
      clear hr hdr
      obtain ⟨ra, rb, d⟩ := r
      simp only at c0 c1_ c2 hrd hstep
      have Hrd := Lib.hid hrd
      have hk0 : (0 : Int) ≤ (k : Int) := by omega
      have hkn : (k : Int) < (n : Int) := by omega
      have hgl : b < wr.heap.size := by have := hbw.size; omega
      have hw1 := hbw.alloc hbw.size (.cells #[.int .i64 ra, .int .i64 rb, .slice A1 n1 d1] 29)
      have hpb := Blk.new wr 29 #[.int .i64 ra, .int .i64 rb, .slice A1 n1 d1]
      have Hpb := Lib.hid hpb
      have hown1 := Lib.hid (World.ownsRow.alloc hown.out (.cells #[.int .i64 ra, .int .i64 rb, .slice A1 n1 d1] 29))
      obtain ⟨q, hq⟩ : ∃ q, oneE (ra, rb, d) = q := ⟨_, rfl⟩
      have Hq := Lib.hid hq
      have hcall := one_any ra rb d A1 n1 d1 B q (wr.alloc (.cells #[.int .i64 ra, .int .i64 rb, .slice A1 n1 d1] 29)) (hrd.alloc (by have := hbw.size; omega) _) (by have := hw1.size; omega) hq
      have Hcall := Lib.hid hcall
      clear hpb hq hcall hrd
      go_wp2_with fail
      refine Hcall.out.mono ?_
      rintro e w2 ⟨rfl, hb2⟩
      have hw2 := hw1.trans (hb2.mono hw1.size)
      have hpb2 := Hpb.out.below hb2 Hpb.out.lt
      have Hrd2 : Hid (RdP w2 B A1 n1 d1 d) := Lib.hid ((Hrd.out.alloc (by have := hbw.size; omega) _).below (hb2.mono (by have := hw1.size; omega)))
      have hown2 : OwnS w2 w.heap.size (.slice (some ⟨g, 0, none⟩) m c1) (pre ++ [last]) := own_below hown1.out hb2
      clear hb2
      by_cases hq0 : q = 0
      · subst hq0
        have hp2 := hpb2.cell 2
        have lp2 := hpb2.lt
        have hlen : (pre ++ [last]).length = m := by have := Hm.out; rw [List.length_append, List.length_singleton]; omega
        have hcl : w2.cell? ⟨g, k, none⟩ = some (.string last) := by
          have h1 := hown2
          unfold OwnS at h1
          rw [hlen] at h1
          rw [World.ownsRow.cellAt h1 k (by have := Hm.out; omega)]
          rw [List.map_append, List.getElem?_append_right (by simp; omega)]
          simp [hpl]
        have hgw : g < w2.heap.size := own_lt hown2 g rfl
        have Hown2 := Lib.hid hown2
        have hsz2 := hw2.size
        have hp2' : w2.cell? ⟨wr.heap.size, 2, none⟩ = some (.slice A1 n1 d1) := hp2
        have hB2 : B ≤ w2.heap.size := by omega
        have hdo : ∀ w', (Below w2.heap.size w2 w' ∧ w'.cell? ⟨wr.heap.size, 2, none⟩ = some (.slice A1 n1 d1) ∧ w'.cell? ⟨g, k, none⟩ = some (.string last)) →
            Calls Try.prog 22 #[.slice A1 n1 d1, .string last] w' fun e w'' => e = .returned (.tuple #[.string (doS d last), .int .i64 (doE d last)]) ∧ (Below w2.heap.size w2 w'' ∧ w''.cell? ⟨wr.heap.size, 2, none⟩ = some (.slice A1 n1 d1) ∧ w''.cell? ⟨g, k, none⟩ = some (.string last)) := by
          rintro w' ⟨q1, q2, q3⟩
          refine (do_any d A1 n1 d1 B last w' (Hrd2.out.below (q1.mono hB2)) (by have := q1.size; omega) (by omega)).mono ?_
          rintro e w'' ⟨rfl, hb⟩
          have := q1.size
          exact ⟨rfl, q1.trans (hb.mono (by omega)), (hb.cell (by show wr.heap.size < _; omega)).trans q2, (hb.cell (by show g < _; omega)).trans q3⟩
        have Hdo := Lib.hid hdo
        have hwr : IntKind.i64.wrap ((m : Int) - 1) = (k : Int) := by rw [show (m : Int) - 1 = (k : Int) by have := Hm.out; omega]; exact IntWalk.i64_in _ (by omega)
        have hkm : (k : Int) < (m : Int) := by have := Hm.out; omega
        have htn : ((k : Int)).toNat = k := by omega
        have hds := do_size_any d last
        clear hown2 hpb2 hdo hp2
        go_wp2_with fail
        go_region_held3 (fun w' => Below w2.heap.size w2 w' ∧ w'.cell? ⟨wr.heap.size, 2, none⟩ = some (.slice A1 n1 d1) ∧ w'.cell? ⟨g, k, none⟩ = some (.string last)) (first | assumption | exact ⟨Below.drew (Below.refl _ _), by assumption, by assumption⟩)
          ((first | (go_at_call 22; refine (Hdo.out _ (by assumption)).mono ?_; rintro e w9 ⟨rfl, hb9⟩)))
        all_goals
          have hS9 : Below w2.heap.size w2 w9 := And.left (by assumption)
          have hw9 := hw2.trans (hS9.mono hw2.size)
          have hown9 : OwnS w9 w.heap.size (.slice (some ⟨g, 0, none⟩) m c1) (pre ++ [last]) := own_below Hown2.out hS9
          have Hown9 := Lib.hid hown9
          clear hown9
          obtain ⟨z, hz⟩ : ∃ z, doE d last = z := ⟨_, rfl⟩
          by_cases hz0 : z = 0
          · subst hz0
            have hE2 := hstep.out.2.2 Hq.out hz
            have hT2 : (pre ++ [last]) ++ txs (doS d last) (l.drop (k + 1)) = T := by
              have := hst.out.2
              rw [List.append_assoc]; exact this
            have HE2 := Lib.hid hE2
            have HT2 := Lib.hid hT2
            rw [hz]
            have hl1 : (pre ++ [last]).length ≤ 100000000 := by have := Hm.out; omega
            have hsz9 := hw9.size
            clear hE2 hT2 hstep hst hz Hown2
            go_wp2_with (first | (at_builtin; refine wpList_app_strg _ rfl (.tmp 48) (.tmp 50) rfl w.heap.size _ (pre ++ [last]) rfl Hown9.out (doS d last) 1 rfl hl1 hsz9 ?_; intro v3 w3 g1 g2 g3; obtain ⟨A3, c3, rfl⟩ := g1.form_ (n := m + 1) (by rw [List.length_append, hlen, List.length_singleton])))
            have hg3 : ∃ g', A3 = some ⟨g', 0, none⟩ := by
              rcases g1.2 with ⟨hv, h0⟩ | ⟨g', cap, cur, hv, _⟩
              · rw [List.length_append, List.length_singleton] at h0; omega
              · injection hv with h1 h2 h3; exact ⟨g', h1⟩
            obtain ⟨g', rfl⟩ := hg3
            have hw3 := hw9.trans g2
            have Hg1 := Lib.hid g1
            clear g1 g2 g3
            go_wp2_with fail
            go_roundw
            case rel => exact ⟨k + 1, m + 1, c3, g', pre ++ [last], doS d last, by omega, by go_num, by have := Hm.out; omega, rfl, hds, by rw [List.length_append, List.length_singleton]; omega, Hg1, Lib.hid ⟨HE2.out, HT2.out⟩, hw3⟩
            case measure => simp [intOf]; omega
          · have hE2 : E = z := by rw [hstep.out.2.1 Hq.out (by rw [hz]; exact hz0)]; exact hz
            have hz1 : (z != 0) = true := by simpa using hz0
            rw [hz]
            subst hE2
            have Hz0 := Lib.hid hz0
            clear hz0 hz
            go_wp2_with fail
            go_ret2
            exact ⟨_, _, _, rfl, fun h => absurd h Hz0.out, hw9⟩
      · have hE2 : E = q := by rw [hstep.out.1 (by rw [Hq.out]; exact hq0)]; exact Hq.out
        have hq1 : (q != 0) = true := by simpa using hq0
        subst hE2
        have Hq0 := Lib.hid hq0
        clear hq0 hpb2 hown2
        go_wp2_with fail
        go_ret2
        exact ⟨_, _, _, rfl, fun h => absurd h Hq0.out, hw2⟩
    · have hfin : E = 0 ∧ pre ++ [last] = T := by
        have h1 := hst.out
        rw [List.drop_eq_nil_of_le (by have := H.out.1; omega)] at h1
        exact ⟨h1.1.symm, h1.2⟩
      obtain ⟨rfl, rfl⟩ := hfin
      go_wp2_with fail
      go_ret2
      exact ⟨_, _, _, rfl, (by first | exact hown.out | exact fun _ => hown.out), hbw⟩
theorem rcheck_any (base : ByteArray) (l : List Rv) (A : Option Addr) (n c B : Nat) (w : World) (h : RdR w B A n c l) (hB : B ≤ w.heap.size) (hbs : base.size ≤ 9223372036854775807) :
    Calls Try.prog 42 #[.string base, .slice A n c] w fun e w' => e = .returned (.int .i64 (txE base l)) ∧ Below w.heap.size w w' := by
  have hc := texts_any base l A n c B w h hB hbs
  have Hc := Lib.hid hc
  clear hc h
  go_enter Try.func42, Try.ntmps42
  go_wp2_with fail
  refine Hc.out.mono ?_
  rintro e w1 ⟨A1, n1, c1, rfl, _, hb⟩
  go_wp2_with fail
  go_ret
  exact ⟨rfl, hb⟩
theorem rtext_err (base : ByteArray) (l : List Rv) (A : Option Addr) (n c B : Nat) (k : Int) (w : World) (h : RdR w B A n c l) (hB : B ≤ w.heap.size) (hbs : base.size ≤ 9223372036854775807) (he : txE base l ≠ 0) :
    Calls Try.prog 21 #[.string base, .slice A n c, .int .i64 k] w fun e w' => e = .returned (.tuple #[.string ⟨#[]⟩, .int .i64 (txE base l)]) ∧ Below w.heap.size w w' := by
  have hc := texts_any base l A n c B w h hB hbs
  have Hc := Lib.hid hc
  have hne : (txE base l != 0) = true := by simpa using he
  clear hc h he
  go_enter Try.func21, Try.ntmps21
  go_wp2_with fail
  refine Hc.out.mono ?_
  rintro e w1 ⟨A1, n1, c1, rfl, _, hb⟩
  go_wp2_with fail
  go_ret2
  exact ⟨rfl, hb⟩
theorem rtext_arg (base : ByteArray) (l : List Rv) (A : Option Addr) (n c B : Nat) (k : Int) (w : World) (h : RdR w B A n c l) (hB : B ≤ w.heap.size) (hbs : base.size ≤ 9223372036854775807) (he : txE base l = 0) (hk : k < 0 ∨ (n : Int) < k) :
    Calls Try.prog 21 #[.string base, .slice A n c, .int .i64 k] w fun e w' => e = .returned (.tuple #[.string ⟨#[]⟩, .int .i64 1]) ∧ Below w.heap.size w w' := by
  have hc := texts_any base l A n c B w h hB hbs
  rw [he] at hc
  have Hc := Lib.hid hc
  have hle := h.le
  clear hc h he
  rcases (show k < 0 ∨ (0 ≤ k ∧ (n : Int) < k) by omega) with h1 | ⟨h1, h2⟩
  all_goals
    clear hk
    go_enter Try.func21, Try.ntmps21
    go_wp2_with fail
    refine Hc.out.mono ?_
    rintro e w1 ⟨A1, n1, c1, rfl, _, hb⟩
    go_wp2_with fail
    go_ret2
    exact ⟨rfl, hb⟩
theorem rtext_good (base : ByteArray) (l : List Rv) (A : Option Addr) (n c B : Nat) (k : Nat) (w : World) (h : RdR w B A n c l) (hB : B ≤ w.heap.size) (he : txE base l = 0) (hk : k ≤ l.length) :
    Calls Try.prog 21 #[.string base, .slice A n c, .int .i64 k] w fun e w' => e = .returned (.tuple #[.string (txt base l k), .int .i64 0]) ∧ Below w.heap.size w w' := by
  have hp := txE_parts he
  have hc := texts_any base l A n c B w h hB (by omega)
  rw [he] at hc
  have Hc := Lib.hid hc
  have hn : n = l.length := h.1
  have hkn : (k : Int) ≤ (n : Int) := by omega
  have hk0 : (0 : Int) ≤ (k : Int) := by omega
  have hat := txs_at l base k hk
  have hlen := txs_len l base
  have hn64 : (n : Int) ≤ 64 := by omega
  obtain ⟨t, ht⟩ : ∃ t, txt base l k = t := ⟨_, rfl⟩
  rw [ht] at hat ⊢
  have Hat := Lib.hid hat
  have Hlen := Lib.hid (show (txs base l).length = n + 1 by omega)
  have hkd : decide (n < k) = false := by simp; omega
  clear hc h he hp hat hlen hn ht hk
  go_enter Try.func21, Try.ntmps21
  go_wp2_with fail
  refine Hc.out.mono ?_
  rintro e w1 ⟨A1, n1, c1, rfl, hown, hb⟩
  have ho := hown trivial
  unfold OwnS at ho
  rw [Hlen.out] at ho
  have hnn : n1 = n + 1 ∧ ∃ g, A1 = some ⟨g, 0, none⟩ := by
    rcases ho.2 with ⟨hv, h0⟩ | ⟨g', cap, cur, hv, _⟩
    · omega
    · injection hv with h1 h2 h3; exact ⟨h2, g', h1⟩
  obtain ⟨rfl, g, rfl⟩ := hnn
  have hcl : w1.cell? ⟨g, k, none⟩ = some (.string t) := by
    rw [World.ownsRow.cellAt ho k (by omega), List.getElem?_map, Hat.out]
    rfl
  have hkn2 : (k : Int) < (n : Int) + 1 := by omega
  clear hown ho
  go_wp2_with fail
  go_ret2
  exact ⟨rfl, hb⟩
end Go.Proofs.Ytfncpcmaplhojaa
