/- Deltas that put nothing at one place; plain lists, no program. -/
import Derived.Test.YtcclcgapcnjcdaaBase
import Derived.Test.YtcclcgapcnjcdaaMeetLaw
namespace Go.Proofs.Ytcclcgapcnjcdaa
open Go.ChangeShapes Go.WideShapes Go.RowKit
set_option linter.unusedVariables false
set_option linter.unusedSimpArgs false

/-- the places at which bytes are put -/
def plc : Int → List U → List Int
  | _, [] => []
  | i, some (some _) :: us => i :: plc i us
  | i, _ :: us => plc (i + 1) us
theorem mt_swap (xs ys : List U) (h : nI xs = nI ys) : ∀ i : Int, (∀ x ∈ plc i xs, x ∉ plc i ys) → mt ys xs = ((mt xs ys).2, (mt xs ys).1) := by
  refine mt_ind (M := fun xs ys => ∀ i : Int, (∀ x ∈ plc i xs, x ∉ plc i ys) → mt ys xs = ((mt xs ys).2, (mt xs ys).1)) (fun _ _ => rfl) ?_ ?_ ?_ ?_ ?_ ?_ _ xs ys (Nat.le_refl _) h
  · intro b xs ys h ih i ha
    have hy : ∀ c r, ys ≠ some (some c) :: r := by
      rintro c r rfl
      exact ha i (by simp [plc]) (by simp [plc])
    have := ih i fun x hx => ha x (by simp [plc, hx])
    rw [mt_put _ _ _ hy, this]
    simp only [mt]
  · intro xs b ys hx h ih i ha
    have := ih i fun x hx2 hy => ha x hx2 (by simp [plc, hy])
    rw [mt_put _ _ _ hx]
    simp only [mt]
    rw [this]
  all_goals
    intro xs ys h ih i ha
    have := ih (i + 1) (by simpa [plc] using ha)
    simp [mt, lead, rst, this]
theorem plc_none (n : Nat) (us : List U) : ∀ i : Int, plc i (List.replicate n none ++ us) = plc (i + n) us := by
  induction n with
  | zero => intro i; simp
  | succ n ih => intro i; rw [List.replicate_succ, List.cons_append]; simp only [plc]; rw [ih]; congr 1; omega
theorem plc_some (n : Nat) (us : List U) : ∀ i : Int, plc i (List.replicate n (some none) ++ us) = plc (i + n) us := by
  induction n with
  | zero => intro i; simp
  | succ n ih => intro i; rw [List.replicate_succ, List.cons_append]; simp only [plc]; rw [ih]; congr 1; omega
theorem plc_put (t : List UInt8) (us : List U) (i : Int) : ∀ x ∈ plc i (t.map (fun b => some (some b)) ++ us), (t ≠ [] ∧ x = i) ∨ x ∈ plc i us := by
  induction t with
  | nil => intro x hx; exact .inr (by simpa using hx)
  | cons y t ih =>
    intro x hx
    simp only [List.map_cons, List.cons_append, plc, List.mem_cons] at hx
    rcases hx with rfl | hx
    · exact .inl ⟨by simp, rfl⟩
    · rcases ih x hx with ⟨_, h⟩ | h
      · exact .inl ⟨by simp, h⟩
      · exact .inr h
/-- the places, as the program counts them -/
def plA : Int → List Pt → List Int
  | _, [] => []
  | a, p :: l => (if p.1 = 2 then [a] else []) ++ plA (wrap64 (a + p.2.1)) l
theorem plA_len : ∀ (l : List Pt) (a : Int), (plA a l).length ≤ l.length
  | [], a => Nat.le_refl _
  | p :: l, a => by
    have := plA_len l (wrap64 (a + p.2.1))
    simp only [plA, List.length_append, List.length_cons]
    split <;> simp <;> omega
theorem plc_sub : ∀ (l : List Pt) (i : Int), Fine l → 0 ≤ i → i + nI (units l) ≤ 1000000 → ∀ x ∈ plc i (units l), x ∈ plA i l
  | [], i, _, _, _, x, hx => by simp [units, plc] at hx
  | p :: l, i, hf, h0, hb, x, hx => by
    have hl : Fine l := fun q hq => hf q (by simp [hq])
    rw [units_cons, nI_append] at hb
    rw [units_cons] at hx
    obtain ⟨k, m, t⟩ := p
    rcases hf (k, m, t) (by simp) with ⟨h1 | h1, h4, h3⟩ | ⟨h1, h4, _⟩
    · simp only at h1 h3 h4; subst h1; subst h3
      obtain ⟨z, rfl⟩ := Int.eq_ofNat_of_zero_le (show 0 ≤ m by omega)
      have e : up ((1, (z : Int), emp) : Pt) = List.replicate z none := by simp [up]
      rw [e, nI_keeps] at hb
      rw [e, plc_none] at hx
      have hw : wrap64 (i + (z : Int)) = i + z := IntWalk.wrap64_in _ ⟨by omega, by omega⟩
      have := plc_sub l (i + z) hl (by omega) (by omega) x hx
      simp only [plA]
      rw [hw]
      simpa using this
    · simp only at h1 h3 h4; subst h1; subst h3
      obtain ⟨z, rfl⟩ := Int.eq_ofNat_of_zero_le (show 0 ≤ m by omega)
      have e : up ((3, (z : Int), emp) : Pt) = List.replicate z (some none) := by simp [up]
      rw [e, nI_cuts] at hb
      rw [e, plc_some] at hx
      have hw : wrap64 (i + (z : Int)) = i + z := IntWalk.wrap64_in _ ⟨by omega, by omega⟩
      have := plc_sub l (i + z) hl (by omega) (by omega) x hx
      simp only [plA]
      rw [hw]
      simpa using this
    · simp only at h1 h4; subst h1; subst h4
      have e : up ((2, 0, t) : Pt) = t.data.toList.map (fun b => some (some b)) := by simp [up]
      have hz : nI (t.data.toList.map (fun b => (some (some b) : U))) = 0 := nI_pu t
      rw [e, hz] at hb
      rw [e] at hx
      have hw : wrap64 (i + 0) = i := by rw [Int.add_zero]; exact IntWalk.wrap64_in _ ⟨by omega, by omega⟩
      simp only [plA]
      rw [hw]
      rcases plc_put _ _ i x hx with ⟨_, rfl⟩ | h
      · simp
      · have := plc_sub l i hl h0 (by omega) x h
        simp [this]
theorem apart_sym {a b : List Pt} (h : meetE a b = 0) (hp : ∀ x ∈ plA 0 a, x ∉ plA 0 b) : meetE b a = 0 ∧ meetC b a = meetD a b ∧ meetD b a = meetC a b := by
  obtain ⟨h1, h2, h3, h4, h5, h6, h7⟩ := meet_chk h
  have ca := chk_parts h1
  have cb := chk_parts h2
  have hap : ∀ x ∈ plc 0 (units a), x ∉ plc 0 (units b) := fun x hx hy =>
    hp x (plc_sub a 0 ca.2.2.1 (by omega) (by omega) x hx) (plc_sub b 0 cb.2.2.1 (by omega) (by omega) x hy)
  have hs := mt_swap (units a) (units b) h3 0 hap
  have e1 : meet1 b a = meet2 a b := by unfold meet1 meet2; rw [hs]
  have e2 : meet2 b a = meet1 a b := by unfold meet1 meet2; rw [hs]
  have hE : meetE b a = 0 := by
    unfold meetE
    rw [if_neg (by omega), if_neg (by omega), if_neg (by omega), e1, e2, if_neg (by omega), h4]
  obtain ⟨_, _, _, _, _, g6, g7⟩ := meet_chk hE
  exact ⟨hE, by rw [g6, e1, h7], by rw [g7, e2, h6]⟩
theorem apart_comm {a b : List Pt} (hp : ∀ x ∈ plA 0 a, x ∉ plA 0 b) : ∀ x ∈ plA 0 b, x ∉ plA 0 a := fun x hx hy => hp x hy hx
end Go.Proofs.Ytcclcgapcnjcdaa
