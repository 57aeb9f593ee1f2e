/- Whose each byte is; plain lists, no program. -/
import Derived.Test.YtcclcgapcnjcdaaUndoLaw
namespace Go.Proofs.Ytcclcgapcnjcdaa
set_option linter.unusedVariables false
set_option linter.unusedSimpArgs false

theorem g_keep {α : Type} (f : UInt8 → α) {N : Nat} {t : ByteArray} {l : List Pt} {acc r : List α} {R : List α} (h : acc ++ ap f (units ((1, (N : Int), t) :: l)) r = R) (hn : nI (units ((1, (N : Int), t) :: l)) = r.length) :
    (acc ++ r.take N) ++ ap f (units l) (r.drop N) = R ∧ nI (units l) = (r.drop N).length ∧ N ≤ r.length := by
  have e : up ((1, (N : Int), t) : Pt) = List.replicate N none := by simp [up]
  rw [units_cons, e] at h hn
  rw [nI_append, nI_keeps] at hn
  have h3 : (r.take N).length = N := by rw [List.length_take]; omega
  have h4 := ap_append f (List.replicate N none) (units l) (r.take N) (r.drop N) (by rw [nI_keeps, h3])
  rw [List.take_append_drop] at h4
  rw [h4] at h
  have h5 := ap_keeps (α := α) f (r.take N)
  rw [h3] at h5
  rw [h5] at h
  refine ⟨by rw [List.append_assoc]; exact h, by rw [List.length_drop]; omega, by omega⟩
theorem g_cut {α : Type} (f : UInt8 → α) {N : Nat} {t : ByteArray} {l : List Pt} {acc r : List α} {R : List α} (h : acc ++ ap f (units ((3, (N : Int), t) :: l)) r = R) (hn : nI (units ((3, (N : Int), t) :: l)) = r.length) :
    acc ++ ap f (units l) (r.drop N) = R ∧ nI (units l) = (r.drop N).length ∧ N ≤ r.length := by
  have e : up ((3, (N : Int), t) : Pt) = List.replicate N (some none) := by simp [up]
  rw [units_cons, e] at h hn
  rw [nI_append, nI_cuts] at hn
  have h3 : (r.take N).length = N := by rw [List.length_take]; omega
  have h4 := ap_append f (List.replicate N (some none)) (units l) (r.take N) (r.drop N) (by rw [nI_cuts, h3])
  rw [List.take_append_drop] at h4
  rw [h4] at h
  have h5 := ap_cuts (α := α) f (r.take N)
  rw [h3] at h5
  rw [h5] at h
  exact ⟨by simpa using h, by rw [List.length_drop]; omega, by omega⟩
theorem g_put {α : Type} (c : α) {N : Int} {t : ByteArray} {l : List Pt} {acc r : List α} {R : List α} (h : acc ++ ap (fun _ => c) (units ((2, N, t) :: l)) r = R) (hn : nI (units ((2, N, t) :: l)) = r.length) :
    (acc ++ List.replicate t.size c) ++ ap (fun _ => c) (units l) r = R ∧ nI (units l) = r.length := by
  have e : up ((2, N, t) : Pt) = t.data.toList.map (fun b => some (some b)) := by simp [up]
  have h0 : nI (t.data.toList.map (fun b => (some (some b) : U))) = 0 := nI_pu t
  rw [units_cons, e] at h hn
  rw [nI_append, h0] at hn
  rw [ap_puts] at h
  have e2 : t.data.toList.map (fun _ => c) = List.replicate t.size c := by rw [List.map_const']; rfl
  rw [e2] at h
  exact ⟨by rw [List.append_assoc]; exact h, by omega⟩
/-- who is behind revisions, from number k on -/
def blL : Nat → List Int → List Rv → List Int
  | _, who, [] => who
  | k, who, r :: l => blL (k + 1) (ap (fun _ => (k : Int) + 1) (units r.2.2) who) l
theorem bl_step {k : Nat} {W : List Int} {s : ByteArray} {r : Rv} {l : List Rv} {R : List Int} (h : blL k W (r :: l) = R ∧ txr s (r :: l) = 0 ∧ W.length = s.size ∧ s.size ≤ 500) :
    chk r.2.2 = 0 ∧ nI (units r.2.2) = W.length ∧ (ap (fun _ => (k : Int) + 1) (units r.2.2) W).length ≤ 500 ∧
    (blL (k + 1) (ap (fun _ => (k : Int) + 1) (units r.2.2) W) l = R ∧ txr (doS r.2.2 s) l = 0 ∧ (ap (fun _ => (k : Int) + 1) (units r.2.2) W).length = (doS r.2.2 s).size ∧ (doS r.2.2 s).size ≤ 500) := by
  obtain ⟨h1, h2, h3, h4⟩ := h
  simp only [txr] at h2
  split at h2
  · omega
  · split at h2
    · omega
    · rename_i q1 q2
      have q2' : doE r.2.2 s = 0 := by omega
      have hk := do_chk q2'
      have hz := do_size q2'
      have hl : nI (units r.2.2) = W.length := by rw [hk.2.1, h3]
      have ha := ap_length (fun _ => (k : Int) + 1) (units r.2.2) W hl
      have h5 := do_le q2'
      exact ⟨hk.1, hl, by omega, h1, h2, by omega, h5⟩
/-- whose each byte of the last text is -/
def blame (base : ByteArray) (l : List Rv) : List Int := blL 0 (List.replicate base.size 0) l
theorem bl_len : ∀ (l : List Rv) (k : Nat) (W : List Int) (s : ByteArray), txr s l = 0 → W.length = s.size → (blL k W l).length = (txt s l l.length).size
  | [], k, W, s, _, h => by simpa [blL, txt] using h
  | r :: l, k, W, s, h, h2 => by
    simp only [txr] at h
    split at h
    · omega
    · split at h
      · omega
      · rename_i q1 q2
        have q2' : doE r.2.2 s = 0 := by omega
        have hk := do_chk q2'
        have ha := ap_length (fun _ => (k : Int) + 1) (units r.2.2) W (by rw [hk.2.1, h2])
        simp only [blL, txt, List.length_cons]
        exact bl_len l (k + 1) _ (doS r.2.2 s) h (by rw [ha, do_size q2'])
theorem blame_len {base : ByteArray} {l : List Rv} (h : txE base l = 0) : (blame base l).length = (txt base l l.length).size :=
  bl_len l 0 _ base (txE_parts h).2.2 (by simp)
theorem bl_app : ∀ (l l' : List Rv) (k : Nat) (W : List Int), blL k W (l ++ l') = blL (k + l.length) (blL k W l) l'
  | [], l', k, W => by simp [blL]
  | r :: l, l', k, W => by
    simp only [List.cons_append, blL, List.length_cons]
    rw [bl_app l l' (k + 1), show k + 1 + l.length = k + (l.length + 1) by omega]
theorem ap_mem {α : Type} (P : α → Prop) (f : UInt8 → α) (hf : ∀ b, P (f b)) : ∀ (us : List U) (s : List α), (∀ x ∈ s, P x) → ∀ x ∈ ap f us s, P x
  | [], s, h, x, hx => by simp only [ap] at hx; first | exact h x hx | simp at hx
  | none :: us, [], h, x, hx => by simp only [ap] at hx; simp at hx
  | none :: us, y :: s, h, x, hx => by
    simp only [ap, List.mem_cons] at hx
    rcases hx with rfl | hx
    · exact h _ (by simp)
    · exact ap_mem P f hf us s (fun z hz => h z (by simp [hz])) x hx
  | some none :: us, [], h, x, hx => by simp only [ap] at hx; simp at hx
  | some none :: us, y :: s, h, x, hx => by
    simp only [ap] at hx
    exact ap_mem P f hf us s (fun z hz => h z (by simp [hz])) x hx
  | some (some b) :: us, s, h, x, hx => by
    simp only [ap, List.mem_cons] at hx
    rcases hx with rfl | hx
    · exact hf b
    · exact ap_mem P f hf us s h x hx
theorem bl_range : ∀ (l : List Rv) (k : Nat) (W : List Int), (∀ x ∈ W, 0 ≤ x ∧ x ≤ k) → ∀ x ∈ blL k W l, 0 ≤ x ∧ x ≤ (k : Int) + l.length
  | [], k, W, h, x, hx => by have := h x hx; simp; omega
  | r :: l, k, W, h, x, hx => by
    have := bl_range l (k + 1) (ap (fun _ => (k : Int) + 1) (units r.2.2) W) (ap_mem (fun x => 0 ≤ x ∧ x ≤ ((k + 1 : Nat) : Int)) _ (fun _ => by omega) _ _ fun y hy => by have := h y hy; omega) x hx
    simp only [List.length_cons]
    omega
theorem blame_range (base : ByteArray) (l : List Rv) : ∀ x ∈ blame base l, 0 ≤ x ∧ x ≤ (l.length : Int) := by
  intro x hx
  have := bl_range l 0 (List.replicate base.size 0) (fun y hy => by rw [List.mem_replicate] at hy; omega) x hx
  omega
theorem bl_map (k : Nat) : ∀ (l : List Rv) (j : Nat) (W : List Int), (blL (k + j) W l).map (fun v => max 0 (v - (k : Int))) = blL j (W.map (fun v => max 0 (v - (k : Int)))) l
  | [], j, W => rfl
  | r :: l, j, W => by
    simp only [blL]
    rw [show k + j + 1 = k + (j + 1) by omega, bl_map k l (j + 1)]
    congr 1
    rw [ap_map (fun v => max 0 (v - (k : Int))) (fun _ => ((k + j : Nat) : Int) + 1) (fun _ => (j : Int) + 1) (fun _ => by omega)]
theorem blame_parts {base : ByteArray} {l : List Rv} (h : txE base l = 0) (k : Nat) (hk : k ≤ l.length) : (blame base l).map (fun v => max 0 (v - (k : Int))) = blame (txt base l k) (l.drop k) := by
  have e : blame base l = blL k (blame base (l.take k)) (l.drop k) := by
    have := bl_app (l.take k) (l.drop k) 0 (List.replicate base.size 0)
    rw [List.take_append_drop, List.length_take, Nat.min_eq_left hk, Nat.zero_add] at this
    exact this
  have e2 : (blame base (l.take k)).map (fun v => max 0 (v - (k : Int))) = List.replicate (txt base l k).size 0 := by
    have hl := blame_len (txE_take h k)
    rw [List.length_take, Nat.min_eq_left hk, txt_take _ _ _ _ (Nat.le_refl _)] at hl
    rw [← hl]
    have hr := blame_range base (l.take k)
    rw [List.length_take, Nat.min_eq_left hk] at hr
    generalize blame base (l.take k) = Z at hr
    clear hl e
    induction Z with
    | nil => rfl
    | cons z Z ih =>
      have := hr z (by simp)
      rw [List.map_cons, List.length_cons, List.replicate_succ, ih fun x hx => hr x (by simp [hx])]
      congr 1
      omega
  rw [e]
  have := bl_map k (l.drop k) 0 (blame base (l.take k))
  rw [Nat.add_zero, e2] at this
  exact this
end Go.Proofs.Ytcclcgapcnjcdaa
