/- What undo.Of says, and what comes between two revisions; plain lists, no program. Whose each byte is; plain lists, no program. Contract of blame.Of. Contracts of hot.Rev, flat and Head. -/
import Derived.Test.YtfncpcmaplhojaaK5
import Derived.Test.YtfncpcmaplhojaaK19
import Derived.Test.YtfncpcmaplhojaaK13
import Derived.Test.YtfncpcmaplhojaaK6
namespace Go.Proofs.Ytfncpcmaplhojaa
set_option linter.unusedVariables false
set_option linter.unusedSimpArgs false

/-- what is left of a delta behind revisions -/
def mtE : List Pt → List Rv → Int
  | _, [] => 0
  | o, r :: l => if meetE r.2.2 o ≠ 0 then meetE r.2.2 o else mtE (meetD r.2.2 o) l
def mtL : List Pt → List Rv → List Pt
  | o, [] => o
  | o, r :: l => mtL (meetD r.2.2 o) l
theorem mt_step {o : List Pt} {r : Rv} {l : List Rv} {E : Int} {R : List Pt} (h : mtE o (r :: l) = E ∧ (E = 0 → mtL o (r :: l) = R)) :
    (meetE r.2.2 o ≠ 0 → E = meetE r.2.2 o) ∧ (meetE r.2.2 o = 0 → mtE (meetD r.2.2 o) l = E ∧ (E = 0 → mtL (meetD r.2.2 o) l = R)) := by
  obtain ⟨h1, h2⟩ := h
  simp only [mtE] at h1
  refine ⟨fun h3 => ?_, fun h3 => ?_⟩
  · rw [if_pos h3] at h1; exact h1.symm
  · rw [if_neg (by omega)] at h1; exact ⟨h1, h2⟩
theorem txr_at : ∀ (l : List Rv) (s : ByteArray) (k : Nat) (h : k < l.length), txr s l = 0 → oneE l[k] = 0 ∧ doE (l[k]).2.2 (txt s l k) = 0 ∧ txt s l (k + 1) = doS (l[k]).2.2 (txt s l k)
  | [], s, k, h, _ => absurd h (by simp)
  | r :: l, s, 0, _, h => by
    simp only [txr] at h
    split at h
    · omega
    · split at h
      · omega
      · rename_i h1 h2
        refine ⟨by simpa using h1, by simpa [txt] using h2, ?_⟩
        cases l <;> simp [txt]
  | r :: l, s, k + 1, hk, h => by
    simp only [txr] at h
    split at h
    · omega
    · split at h
      · omega
      · have := txr_at l (doS r.2.2 s) k (by simpa using hk) h
        simpa [txt] using this
theorem mt_good : ∀ (l : List Rv) (o : List Pt), chk o = 0 → mtE o l = 0 → chk (mtL o l) = 0 ∧ nP (units (mtL o l)) = nP (units o)
  | [], o, h, _ => ⟨h, rfl⟩
  | r :: l, o, h, h2 => by
    simp only [mtE] at h2
    split at h2
    · omega
    · rename_i h3
      have h3' : meetE r.2.2 o = 0 := by omega
      have := mt_good l (meetD r.2.2 o) (meet_good h3').2 h2
      simp only [mtL]
      exact ⟨this.1, by rw [this.2, (meet_sizes h3').2.2.2.2]⟩
/-- bytes that are cut -/
def nC : List U → Nat
  | [] => 0
  | some none :: r => nC r + 1
  | _ :: r => nC r
theorem nC_append (a b : List U) : nC (a ++ b) = nC a + nC b := by
  induction a with
  | nil => simp [nC]
  | cons u a ih => rcases u with _ | _ | x <;> simp [nC, ih] <;> omega
theorem nP_tn : ∀ (us : List U) (s : List UInt8), nI us = s.length → nP (tn us s) = nC us
  | [], s, _ => by simp [tn, nP, nC]
  | none :: us, [], h => by simp [nI] at h
  | none :: us, x :: s, h => by simp only [tn, nP, nC]; exact nP_tn us s (by simpa [nI] using h)
  | some none :: us, [], h => by simp [nI] at h
  | some none :: us, x :: s, h => by simp only [tn, nP, nC]; rw [nP_tn us s (by simpa [nI] using h)]
  | some (some b) :: us, s, h => by
    have := nP_tn us s (by simpa [nI] using h)
    cases s <;> simpa [tn, nP, nC] using this
def szC : List Pt → Int
  | [] => 0
  | p :: l => (if p.1 = 3 then p.2.1 else 0) + szC l
theorem nC_units : ∀ (l : List Pt), Fine l → (nC (units l) : Int) = szC l
  | [], _ => rfl
  | p :: l, h => by
    have h2 := nC_units l fun q hq => h q (by simp [hq])
    have hr (u : U) (hu : nC [u] = 0) (n : Nat) : nC (List.replicate n u) = 0 := by
      induction n with
      | zero => rfl
      | succ n ih => rw [List.replicate_succ, show u :: List.replicate n u = [u] ++ List.replicate n u from rfl, nC_append, ih, hu]
    have hcn (n : Nat) : nC (List.replicate n (some none)) = n := by
      induction n with
      | zero => rfl
      | succ n ih => rw [List.replicate_succ]; simp only [nC]; rw [ih]
    have hp : ∀ l : List UInt8, nC (l.map (fun b => (some (some b) : U))) = 0 := by
      intro l
      induction l with
      | nil => rfl
      | cons x l ih => simpa [nC] using ih
    have h1 : (nC (up p) : Int) = if p.1 = 3 then p.2.1 else 0 := by
      obtain ⟨k, n, t⟩ := p
      rcases h (k, n, t) (by simp) with ⟨h1 | h1, h4, h3⟩ | ⟨h1, _, _⟩
      · simp only at h1 h3; subst h1
        simp only [up, if_true]
        rw [hr _ rfl]; rfl
      · simp only at h1 h3 h4; subst h1
        rw [show up ((3, n, t) : Pt) = List.replicate n.toNat (some none) from rfl, hcn]
        simp only [if_true]
        omega
      · simp only at h1; subst h1
        rw [show up ((2, n, t) : Pt) = t.data.toList.map (fun b => some (some b)) from rfl, hp]; rfl
    rw [units_cons, nC_append]
    simp only [szC]
    omega
theorem undo_puts {d : List Pt} {s : ByteArray} (h : doE d s = 0) (l : List Rv) (hm : mtE (turnL d s) l = 0) : szP (mtL (turnL d s) l) = szC d := by
  obtain ⟨t1, t2, t3, _⟩ := turn_ok h
  obtain ⟨hk, hn, _, _⟩ := do_chk h
  have g := mt_good l (turnL d s) t2 hm
  have e : nP (units (turnL d s)) = nC (units d) := by rw [t3, nP_cz, nP_tn _ _ hn]
  rw [← nP_units _ (chk_parts g.1).2.2.1, g.2, e, nC_units _ (chk_parts hk).2.2.1]
/-- what comes between revisions -/
def btw : List Pt → List Rv → List Pt
  | o, [] => o
  | o, r :: l => btw (compL o r.2.2) l
theorem btw_do : ∀ (l : List Rv) (o : List Pt) (s : ByteArray), doE o s = 0 → txr (doS o s) l = 0 → doE (btw o l) s = 0 ∧ doS (btw o l) s = txt (doS o s) l l.length
  | [], o, s, h, _ => ⟨h, rfl⟩
  | r :: l, o, s, h, h2 => by
    simp only [txr] at h2
    split at h2
    · omega
    · split at h2
      · omega
      · rename_i h3 h4
        obtain ⟨c1, c2, c3⟩ := comp_do h (b := r.2.2) (by omega)
        have := btw_do l (compL o r.2.2) s c2 (by rw [c3]; exact h2)
        simp only [btw, txt, List.length_cons]
        rw [c3] at this
        exact this
theorem btw_step {o : List Pt} {r : Rv} {l : List Rv} {s : ByteArray} (h : doE o s = 0) (h2 : txr (doS o s) (r :: l) = 0) : compE o r.2.2 = 0 ∧ doE (compL o r.2.2) s = 0 ∧ txr (doS (compL o r.2.2) s) l = 0 := by
  simp only [txr] at h2
  split at h2
  · omega
  · split at h2
    · omega
    · obtain ⟨c1, c2, c3⟩ := comp_do h (b := r.2.2) (by omega)
      exact ⟨c1, c2, by rw [c3]; exact h2⟩
theorem btw_of {base : ByteArray} {l : List Rv} (h : txE base l = 0) (i k : Nat) (hik : i ≤ k) (hk : k ≤ l.length) :
    doE (btw (allL (txt base l i).size) ((l.drop i).take (k - i))) (txt base l i) = 0 ∧ doS (btw (allL (txt base l i).size) ((l.drop i).take (k - i))) (txt base l i) = txt base l k := by
  have hp := txE_parts h
  have h5 := txt_size l base i hp.1
  have hd := do_all h5
  have ht := txr_take (l.drop i) (txt base l i) (k - i) (txr_drop l base i hp.2.2)
  have := btw_do ((l.drop i).take (k - i)) (allL (txt base l i).size) (txt base l i) hd.1 (by rw [hd.2]; exact ht)
  rw [hd.2] at this
  refine ⟨this.1, this.2.trans ?_⟩
  have e : ((l.drop i).take (k - i)).length = k - i := by rw [List.length_take, List.length_drop]; omega
  rw [e, txt_take _ _ _ _ (Nat.le_refl _), txt_drop, show i + (k - i) = k by omega]
end Go.Proofs.Ytfncpcmaplhojaa
namespace Go.Proofs.Ytfncpcmaplhojaa
set_option linter.unusedVariables false
set_option linter.unusedSimpArgs false

theorem g_keep {α : Type} (f : UInt8 → α) {N : Nat} {t : ByteArray} {l : List Pt} {acc r : List α} {R : List α} (h : acc ++ ap f (units ((1, (N : Int), t) :: l)) r = R) (hn : nI (units ((1, (N : Int), t) :: l)) = r.length) :
    (acc ++ r.take N) ++ ap f (units l) (r.drop N) = R ∧ nI (units l) = (r.drop N).length ∧ N ≤ r.length := by
  have e : up ((1, (N : Int), t) : Pt) = List.replicate N none := by simp [up]
  rw [units_cons, e] at h hn
  rw [nI_append, nI_keeps] at hn
  have h3 : (r.take N).length = N := by rw [List.length_take]; omega
  have h4 := ap_append f (List.replicate N none) (units l) (r.take N) (r.drop N) (by rw [nI_keeps, h3])
  rw [List.take_append_drop] at h4
  rw [h4] at h
  have h5 := ap_keeps (α := α) f (r.take N)
  rw [h3] at h5
  rw [h5] at h
  refine ⟨by rw [List.append_assoc]; exact h, by rw [List.length_drop]; omega, by omega⟩
theorem g_cut {α : Type} (f : UInt8 → α) {N : Nat} {t : ByteArray} {l : List Pt} {acc r : List α} {R : List α} (h : acc ++ ap f (units ((3, (N : Int), t) :: l)) r = R) (hn : nI (units ((3, (N : Int), t) :: l)) = r.length) :
    acc ++ ap f (units l) (r.drop N) = R ∧ nI (units l) = (r.drop N).length ∧ N ≤ r.length := by
  have e : up ((3, (N : Int), t) : Pt) = List.replicate N (some none) := by simp [up]
  rw [units_cons, e] at h hn
  rw [nI_append, nI_cuts] at hn
  have h3 : (r.take N).length = N := by rw [List.length_take]; omega
  have h4 := ap_append f (List.replicate N (some none)) (units l) (r.take N) (r.drop N) (by rw [nI_cuts, h3])
  rw [List.take_append_drop] at h4
  rw [h4] at h
  have h5 := ap_cuts (α := α) f (r.take N)
  rw [h3] at h5
  rw [h5] at h
  exact ⟨by simpa using h, by rw [List.length_drop]; omega, by omega⟩
theorem g_put {α : Type} (c : α) {N : Int} {t : ByteArray} {l : List Pt} {acc r : List α} {R : List α} (h : acc ++ ap (fun _ => c) (units ((2, N, t) :: l)) r = R) (hn : nI (units ((2, N, t) :: l)) = r.length) :
    (acc ++ List.replicate t.size c) ++ ap (fun _ => c) (units l) r = R ∧ nI (units l) = r.length := by
  have e : up ((2, N, t) : Pt) = t.data.toList.map (fun b => some (some b)) := by simp [up]
  have h0 : nI (t.data.toList.map (fun b => (some (some b) : U))) = 0 := nI_pu t
  rw [units_cons, e] at h hn
  rw [nI_append, h0] at hn
  rw [ap_puts] at h
  have e2 : t.data.toList.map (fun _ => c) = List.replicate t.size c := by rw [List.map_const']; rfl
  rw [e2] at h
  exact ⟨by rw [List.append_assoc]; exact h, by omega⟩
/-- who is behind revisions, from number k on -/
def blL : Nat → List Int → List Rv → List Int
  | _, who, [] => who
  | k, who, r :: l => blL (k + 1) (ap (fun _ => (k : Int) + 1) (units r.2.2) who) l
theorem bl_step {k : Nat} {W : List Int} {s : ByteArray} {r : Rv} {l : List Rv} {R : List Int} (h : blL k W (r :: l) = R ∧ txr s (r :: l) = 0 ∧ W.length = s.size ∧ s.size ≤ 500) :
    chk r.2.2 = 0 ∧ nI (units r.2.2) = W.length ∧ (ap (fun _ => (k : Int) + 1) (units r.2.2) W).length ≤ 500 ∧
    (blL (k + 1) (ap (fun _ => (k : Int) + 1) (units r.2.2) W) l = R ∧ txr (doS r.2.2 s) l = 0 ∧ (ap (fun _ => (k : Int) + 1) (units r.2.2) W).length = (doS r.2.2 s).size ∧ (doS r.2.2 s).size ≤ 500) := by
  obtain ⟨h1, h2, h3, h4⟩ := h
  simp only [txr] at h2
  split at h2
  · omega
  · split at h2
    · omega
    · rename_i q1 q2
      have q2' : doE r.2.2 s = 0 := by omega
      have hk := do_chk q2'
      have hz := do_size q2'
      have hl : nI (units r.2.2) = W.length := by rw [hk.2.1, h3]
      have ha := ap_length (fun _ => (k : Int) + 1) (units r.2.2) W hl
      have h5 := do_le q2'
      exact ⟨hk.1, hl, by omega, h1, h2, by omega, h5⟩
/-- whose each byte of the last text is -/
def blame (base : ByteArray) (l : List Rv) : List Int := blL 0 (List.replicate base.size 0) l
theorem bl_len : ∀ (l : List Rv) (k : Nat) (W : List Int) (s : ByteArray), txr s l = 0 → W.length = s.size → (blL k W l).length = (txt s l l.length).size
  | [], k, W, s, _, h => by simpa [blL, txt] using h
  | r :: l, k, W, s, h, h2 => by
    simp only [txr] at h
    split at h
    · omega
    · split at h
      · omega
      · rename_i q1 q2
        have q2' : doE r.2.2 s = 0 := by omega
        have hk := do_chk q2'
        have ha := ap_length (fun _ => (k : Int) + 1) (units r.2.2) W (by rw [hk.2.1, h2])
        simp only [blL, txt, List.length_cons]
        exact bl_len l (k + 1) _ (doS r.2.2 s) h (by rw [ha, do_size q2'])
theorem blame_len {base : ByteArray} {l : List Rv} (h : txE base l = 0) : (blame base l).length = (txt base l l.length).size :=
  bl_len l 0 _ base (txE_parts h).2.2 (by simp)
theorem bl_app : ∀ (l l' : List Rv) (k : Nat) (W : List Int), blL k W (l ++ l') = blL (k + l.length) (blL k W l) l'
  | [], l', k, W => by simp [blL]
  | r :: l, l', k, W => by
    simp only [List.cons_append, blL, List.length_cons]
    rw [bl_app l l' (k + 1), show k + 1 + l.length = k + (l.length + 1) by omega]
theorem ap_mem {α : Type} (P : α → Prop) (f : UInt8 → α) (hf : ∀ b, P (f b)) : ∀ (us : List U) (s : List α), (∀ x ∈ s, P x) → ∀ x ∈ ap f us s, P x
  | [], s, h, x, hx => by simp only [ap] at hx; first | exact h x hx | simp at hx
  | none :: us, [], h, x, hx => by simp only [ap] at hx; simp at hx
  | none :: us, y :: s, h, x, hx => by
    simp only [ap, List.mem_cons] at hx
    rcases hx with rfl | hx
    · exact h _ (by simp)
    · exact ap_mem P f hf us s (fun z hz => h z (by simp [hz])) x hx
  | some none :: us, [], h, x, hx => by simp only [ap] at hx; simp at hx
  | some none :: us, y :: s, h, x, hx => by
    simp only [ap] at hx
    exact ap_mem P f hf us s (fun z hz => h z (by simp [hz])) x hx
  | some (some b) :: us, s, h, x, hx => by
    simp only [ap, List.mem_cons] at hx
    rcases hx with rfl | hx
    · exact hf b
    · exact ap_mem P f hf us s h x hx
theorem bl_range : ∀ (l : List Rv) (k : Nat) (W : List Int), (∀ x ∈ W, 0 ≤ x ∧ x ≤ k) → ∀ x ∈ blL k W l, 0 ≤ x ∧ x ≤ (k : Int) + l.length
  | [], k, W, h, x, hx => by have := h x hx; simp; omega
  | r :: l, k, W, h, x, hx => by
    have := bl_range l (k + 1) (ap (fun _ => (k : Int) + 1) (units r.2.2) W) (ap_mem (fun x => 0 ≤ x ∧ x ≤ ((k + 1 : Nat) : Int)) _ (fun _ => by omega) _ _ fun y hy => by have := h y hy; omega) x hx
    simp only [List.length_cons]
    omega
theorem blame_range (base : ByteArray) (l : List Rv) : ∀ x ∈ blame base l, 0 ≤ x ∧ x ≤ (l.length : Int) := by
  intro x hx
  have := bl_range l 0 (List.replicate base.size 0) (fun y hy => by rw [List.mem_replicate] at hy; omega) x hx
  omega
theorem bl_map (k : Nat) : ∀ (l : List Rv) (j : Nat) (W : List Int), (blL (k + j) W l).map (fun v => max 0 (v - (k : Int))) = blL j (W.map (fun v => max 0 (v - (k : Int)))) l
  | [], j, W => rfl
  | r :: l, j, W => by
    simp only [blL]
    rw [show k + j + 1 = k + (j + 1) by omega, bl_map k l (j + 1)]
    congr 1
    rw [ap_map (fun v => max 0 (v - (k : Int))) (fun _ => ((k + j : Nat) : Int) + 1) (fun _ => (j : Int) + 1) (fun _ => by omega)]
theorem blame_parts {base : ByteArray} {l : List Rv} (h : txE base l = 0) (k : Nat) (hk : k ≤ l.length) : (blame base l).map (fun v => max 0 (v - (k : Int))) = blame (txt base l k) (l.drop k) := by
  have e : blame base l = blL k (blame base (l.take k)) (l.drop k) := by
    have := bl_app (l.take k) (l.drop k) 0 (List.replicate base.size 0)
    rw [List.take_append_drop, List.length_take, Nat.min_eq_left hk, Nat.zero_add] at this
    exact this
  have e2 : (blame base (l.take k)).map (fun v => max 0 (v - (k : Int))) = List.replicate (txt base l k).size 0 := by
    have hl := blame_len (txE_take h k)
    rw [List.length_take, Nat.min_eq_left hk, txt_take _ _ _ _ (Nat.le_refl _)] at hl
    rw [← hl]
    have hr := blame_range base (l.take k)
    rw [List.length_take, Nat.min_eq_left hk] at hr
    generalize blame base (l.take k) = Z at hr
    clear hl e
    induction Z with
    | nil => rfl
    | cons z Z ih =>
      have := hr z (by simp)
      rw [List.map_cons, List.length_cons, List.replicate_succ, ih fun x hx => hr x (by simp [hx])]
      congr 1
      omega
  rw [e]
  have := bl_map k (l.drop k) 0 (blame base (l.take k))
  rw [Nat.add_zero, e2] at this
  exact this
end Go.Proofs.Ytfncpcmaplhojaa
namespace Go.Proofs.Ytfncpcmaplhojaa
open Go.ChangeShapes Go.WideShapes Go.RowKit
set_option linter.unusedVariables false
set_option linter.unusedSimpArgs false
set_option maxRecDepth 100000
set_option maxHeartbeats 4000000

theorem ic_take (l : List Int) (k : Nat) : ic (l.take k) = (ic l).take k := by simp [ic, List.map_take]
theorem ic_drop (l : List Int) (k : Nat) : ic (l.drop k) = (ic l).drop k := by simp [ic, List.map_drop]
theorem RdI.take {w : World} {B n c : Nat} {A : Option Addr} {l : List Int} (h : RdI w B A n c l) (k : Nat) (hk : k ≤ n) : RdI w B A k c (l.take k) := by
  obtain ⟨h0, hr⟩ := h
  refine ⟨by rw [List.length_take]; omega, by have := hr.1; omega, hr.2.1, by rw [ic_len, List.length_take]; omega, fun h1 => ?_⟩
  obtain ⟨b, o, e, hb, hc⟩ := hr.2.2.2 (by omega)
  refine ⟨b, o, e, hb, fun j u hj => hc j u ?_⟩
  rw [ic_take, List.getElem?_take] at hj
  split at hj
  · exact hj
  · cases hj
theorem RdI.step {w w' : World} {n c : Nat} {A : Option Addr} {l : List Int} (h : RdI w w.heap.size A n c l) (hb : Below w.heap.size w w') : RdI w' w'.heap.size A n c l := (h.below hb).more hb.size
theorem RdI.stepA {w : World} {n c : Nat} {A : Option Addr} {l : List Int} (h : RdI w w.heap.size A n c l) (o : Obj) : RdI (w.alloc o) (w.alloc o).heap.size A n c l := (h.alloc (Nat.le_refl _) o).more (by simp)
theorem RdI.builtS (w : World) (cs : Array Value) (l : List Int) (n : Nat) (hn : n = l.length) (hc : cs.toList = ic l) (hm : n ≤ maxLen) : RdI (w.alloc (.cells cs 3)) (w.alloc (.cells cs 3)).heap.size (some ⟨w.heap.size, 0, none⟩) n n l := by
  have := RdI.built w cs l n hn hc hm
  rwa [show w.heap.size + 1 = (w.alloc (.cells cs 3)).heap.size by simp] at this
theorem RdI.caps {w : World} {B n c : Nat} {A : Option Addr} {l : List Int} (h : RdI w B A n c l) : n ≤ c ∧ c ≤ 9223372036854775807 := by
  have h1 := h.2.1; have h2 := h.2.2.1; unfold maxLen at h2; exact ⟨h1, h2⟩
theorem RdI.rest {w : World} {B n c : Nat} {A : Option Addr} {l : List Int} (h : RdI w B A n c l) (k : Nat) (hk : k ≤ n) (A' : Option Addr) (hA : A' = if c = k then A else Option.map (fun x : Addr => x.add k) A) : RdI w B A' (n - k) (c - k) (l.drop k) := by
  have hcp := h.caps
  obtain ⟨h0, hr⟩ := h
  refine ⟨by rw [List.length_drop]; omega, by omega, by have := hr.2.1; omega, by rw [ic_len, List.length_drop]; omega, fun h1 => ?_⟩
  obtain ⟨b, o, e, hb, hc⟩ := hr.2.2.2 (by omega)
  refine ⟨b, o + k, ?_, hb, fun j u hj => ?_⟩
  · rw [hA, if_neg (by omega), e]
    simp only [Option.map_some, Addr.add]
    by_cases h2 : k = 0
    · simp [h2]
    · simp [h2]
  · rw [ic_drop, List.getElem?_drop] at hj
    have := hc _ u hj
    rwa [← Nat.add_assoc] at this
theorem wpList_app_intsG {ops : Array Oper} {rest : List Oper} {o : Oper} {a : Act} {Q : Exit → Act → World → Prop} (w : World) (hgd : o.guard = none) (s x : Operand)
    (ho : o.op = .call { callee := .builtin .append, args := #[s, x], argTypes := #[150, 150] })
    (B : Nat) (v : Value) (l : List Int) (hs : a.eval s = v) (hown : OwnI w B v l)
    (A : Option Addr) (m c B' : Nat) (l' : List Int) (hx : a.eval x = .slice A m c) (hr : RdI w B' A m c l')
    (hn : l.length + m ≤ 4000000) (hB : B ≤ w.heap.size)
    (h : ∀ v' w', OwnI w' B v' (l ++ l') → Below B w w' → w.grownBy w' v.ownBlock → wpList Try.prog ops Q rest (a.put o.dst v') w') :
    wpList Try.prog ops Q (o :: rest) a w := by
  obtain ⟨i0, hi, hz0, hz1, hz2⟩ := info_parts Try.info_int
  refine wpList_append_any w hgd s x 150 ho B 3 i0 _ 1 8 Try.underlying150 hi hz0 hz1 hz2 rfl (by omega) v _ _ hs hown B' A m c (ic l') hx ?_ ?_ (by simp only [maxLen]; omega) (by omega) hB ?_
  · refine ⟨by rw [ic_len, hr.1]; omega, fun h0 => ?_⟩
    obtain ⟨b, o', e, hb, hc⟩ := hr.2.2.2.2 h0
    refine ⟨_, e, hb, fun j u hj => ?_⟩
    have := hc j u hj
    by_cases h00 : j = 0
    · subst h00; simpa [Addr.add] using this
    · simpa [Addr.add, h00] using this
  · intro u hu
    unfold ic at hu
    obtain ⟨p, _, rfl⟩ := List.mem_map.1 hu
    rfl
  · intro v' w' h2 h3 h4
    refine h v' w' ?_ (below_grown h3 hB (own_ge hown)) h3
    unfold OwnI
    have e : ic (l ++ l') = ic l ++ ic l' := by simp [ic]
    rw [e, List.length_append, ← hr.1]
    exact h2
theorem ic_rep (n : Nat) : (madeCells #[.int .i64 0] n).toList = ic (List.replicate n 0) := by
  rw [toList_madeCells_one]
  simp [ic]
end Go.Proofs.Ytfncpcmaplhojaa
namespace Go.Proofs.Ytfncpcmaplhojaa
open Go.ChangeShapes Go.WideShapes Go.RowKit
set_option linter.unusedVariables false
set_option linter.unusedSimpArgs false
set_option maxRecDepth 100000
set_option maxHeartbeats 4000000

def frB (r : Rv) : ByteArray := ⟨(txF (frR r)).toArray⟩
theorem hrev_bad (a b : Int) (d : List Pt) (A : Option Addr) (n c : Nat) (w : World) (h : RdP w w.heap.size A n c d) (he : oneE (a, b, d) ≠ 0) :
    Calls Try.prog 43 #[.agg #[.int .i64 a, .int .i64 b, .slice A n c]] w fun e w' => e = .returned (.tuple #[.string ⟨#[]⟩, .int .i64 (oneE (a, b, d))]) ∧ Below w.heap.size w w' := by
  have hc := one_any a b d A n c _ _ _ (h.stepA (.cells #[.int .i64 a, .int .i64 b, .slice A n c] 29)) (Nat.le_refl _) rfl
  obtain ⟨E, hE⟩ : ∃ E, oneE (a, b, d) = E := ⟨_, rfl⟩
  rw [hE] at he hc ⊢
  have hEn : (E != 0) = true := by simpa using he
  have hb0 := (Below.refl w.heap.size w).alloc (Nat.le_refl _) (.cells #[.int .i64 a, .int .i64 b, .slice A n c] 29)
  have Hc := Lib.hid hc
  clear hc hE he h
  go_enter Try.func43, Try.ntmps43
  go_wp2_with fail
  refine Hc.out.mono ?_
  rintro e w1 ⟨rfl, hb⟩
  go_wp2_with fail
  go_ret2
  exact ⟨rfl, hb0.trans (hb.mono hb0.size)⟩
theorem hrev_good (a b : Int) (d : List Pt) (A : Option Addr) (n c : Nat) (w : World) (h : RdP w w.heap.size A n c d) (he : oneE (a, b, d) = 0) :
    Calls Try.prog 43 #[.agg #[.int .i64 a, .int .i64 b, .slice A n c]] w fun e w' => e = .returned (.tuple #[.string (frB (a, b, d)), .int .i64 0]) ∧ Below w.heap.size w w' := by
  obtain ⟨p1, p2, p3, p4, p5⟩ := one_parts he
  simp only at p1 p2 p3 p4 p5
  have hput := fun w => put_okF (frR (a, b, d)) (frR_ok he) w
  have hfr : (frR (a, b, d)).1 = 2 := rfl
  obtain ⟨Bd, hBd⟩ : ∃ Bd, (frR (a, b, d)).2 = Bd := ⟨_, rfl⟩
  have hBl : Bd.data.toList = bodyR (a, b, d) := by rw [← hBd]; rfl
  have hput2 : ∀ w, Calls Try.prog 80 #[.agg #[.int .i64 2, .string Bd]] w fun e w' => e = .returned (.tuple #[.string (frB (a, b, d)), .int .i64 0]) ∧ Below w.heap.size w w' := by
    intro w
    rw [← hBd, ← hfr]
    exact hput w
  obtain ⟨FB, hFB⟩ : ∃ FB, frB (a, b, d) = FB := ⟨_, rfl⟩
  rw [hFB] at hput2 ⊢
  obtain ⟨x, rfl⟩ := Int.eq_ofNat_of_zero_le p1
  obtain ⟨y, rfl⟩ := Int.eq_ofNat_of_zero_le p3
  obtain ⟨S1, hS1⟩ : ∃ S1 : ByteArray, S1.data.toList = viC [x, y] := ⟨⟨(viC [x, y]).toArray⟩, by simp⟩
  obtain ⟨S2, hS2⟩ : ∃ S2 : ByteArray, S2.data.toList = wrL d := ⟨⟨(wrL d).toArray⟩, by simp⟩
  have hcat : S1 ++ S2 = Bd := by
    apply ba_list
    rw [bs_append, hS1, hS2, hBl]
    simp [viC, bodyR]
  have hsz : (9223372036854775807 < S1.size + S2.size) = False := by
    have h1 : S1.data.toList.length = S1.size := rfl
    have h2 : S2.data.toList.length = S2.size := rfl
    have h3 : Bd.data.toList.length ≤ 4000 := by rw [hBl]; exact body_len he
    rw [← hcat, bs_append, List.length_append] at h3
    simp; omega
  have hc := one_any x y d A n c _ _ _ (h.stepA (.cells #[.int .i64 x, .int .i64 y, .slice A n c] 29)) (Nat.le_refl _) he
  have hb0 := (Below.refl w.heap.size w).alloc (Nat.le_refl _) (.cells #[.int .i64 x, .int .i64 y, .slice A n c] 29)
  have kr := Blk.new w 29 #[.int .i64 x, .int .i64 y, .slice A n c]
  have hn := (h.stepA (.cells #[.int .i64 x, .int .i64 y, .slice A n c] 29))
  have Hc := Lib.hid hc
  have Hn := Lib.hid hn
  have Hput := Lib.hid hput2
  have HS1 := Lib.hid hS1
  have HS2 := Lib.hid hS2
  have Hk := Lib.hid p5
  have Hcat := Lib.hid hcat
  clear hc hn h he hput hput2 hS1 hS2 p5 hcat hFB hBl hBd hfr p1 p3
  go_enter Try.func43, Try.ntmps43
  go_upto_region 1 with (fail)
  obtain ⟨W, hW⟩ : ∃ W, w.alloc (.cells #[.int .i64 x, .int .i64 y, .slice A n c] 29) = W := ⟨_, rfl⟩
  rw [hW] at hb0 kr Hc Hn ⊢
  clear hW
  obtain ⟨g, hg⟩ : ∃ g, w.heap.size = g := ⟨_, rfl⟩
  rw [hg] at kr ⊢
  have c0 := kr.cell 0
  have c1 := kr.cell 1
  have c2 := kr.cell 2
  have lr := kr.lt
  go_wp2_with fail
  refine Hc.out.mono ?_
  rintro e w1 ⟨rfl, hb⟩
  replace hb0 := hb0.trans (hb.mono hb0.size)
  replace kr := kr.below hb lr
  replace Hn := Lib.hid (Hn.out.step hb)
  clear hb c0 c1 c2 Hc
  have c0 := kr.cell 0
  have c1 := kr.cell 1
  have lr := kr.lt
  have hnum := nums_good [x, y] (some ⟨w1.heap.size, 0, none⟩) 2 2 (w1.alloc (.cells #[.int .i64 x, .int .i64 y] 3)) (RdI.builtS w1 #[.int .i64 x, .int .i64 y] [(x : Int), (y : Int)] 2 rfl rfl (by unfold maxLen; omega)) (by intro z hz; simp at hz; omega) (by simp) S1 HS1.out
  have hb1 := (Below.refl w1.heap.size w1).alloc (Nat.le_refl _) (.cells #[.int .i64 x, .int .i64 y] 3)
  have Hnum := Lib.hid hnum
  clear hnum
  go_wp2_with fail
  refine Hnum.out.mono ?_
  rintro e w2 ⟨rfl, hb⟩
  have hb2 := hb1.trans (hb.mono hb1.size)
  replace hb0 := hb0.trans (hb2.mono hb0.size)
  replace kr := kr.below hb2 lr
  replace Hn := Lib.hid (Hn.out.step hb2)
  clear hb hb1 hb2 c0 c1 Hnum
  have c2 := kr.cell 2
  have lr := kr.lt
  have hwr := cwrite_good d A n c _ w2 S2 Hn.out (Nat.le_refl _) Hk.out HS2.out
  have Hwr := Lib.hid hwr
  clear hwr
  go_wp2_with fail
  refine Hwr.out.mono ?_
  rintro e w3 ⟨rfl, hb⟩
  replace hb0 := hb0.trans (hb.mono hb0.size)
  clear hb c2 Hwr lr kr
  go_wp2_with fail
  rw [Hcat.out]
  refine (Hput.out w3).mono ?_
  rintro e w4 ⟨rfl, hb⟩
  go_wp2_with fail
  go_ret2
  exact ⟨rfl, hb0.trans (hb.mono hb0.size)⟩
/-- tables -/
theorem sess_at0 (p0 p1 p2 p3 p4 p5 p6 p7 : Int × Int) (w : World) : (Instr.index 68 (.agg (tc [p0, p1, p2, p3, p4, p5, p6, p7]).toArray) (.int .i64 0)).run Try.prog w = .ok (.agg #[.int .i64 p0.1, .int .i64 p0.2]) w := by kernel_rfl
theorem sess_at1 (p0 p1 p2 p3 p4 p5 p6 p7 : Int × Int) (w : World) : (Instr.index 68 (.agg (tc [p0, p1, p2, p3, p4, p5, p6, p7]).toArray) (.int .i64 1)).run Try.prog w = .ok (.agg #[.int .i64 p1.1, .int .i64 p1.2]) w := by kernel_rfl
theorem sess_at2 (p0 p1 p2 p3 p4 p5 p6 p7 : Int × Int) (w : World) : (Instr.index 68 (.agg (tc [p0, p1, p2, p3, p4, p5, p6, p7]).toArray) (.int .i64 2)).run Try.prog w = .ok (.agg #[.int .i64 p2.1, .int .i64 p2.2]) w := by kernel_rfl
theorem sess_at3 (p0 p1 p2 p3 p4 p5 p6 p7 : Int × Int) (w : World) : (Instr.index 68 (.agg (tc [p0, p1, p2, p3, p4, p5, p6, p7]).toArray) (.int .i64 3)).run Try.prog w = .ok (.agg #[.int .i64 p3.1, .int .i64 p3.2]) w := by kernel_rfl
theorem sess_at4 (p0 p1 p2 p3 p4 p5 p6 p7 : Int × Int) (w : World) : (Instr.index 68 (.agg (tc [p0, p1, p2, p3, p4, p5, p6, p7]).toArray) (.int .i64 4)).run Try.prog w = .ok (.agg #[.int .i64 p4.1, .int .i64 p4.2]) w := by kernel_rfl
theorem sess_at5 (p0 p1 p2 p3 p4 p5 p6 p7 : Int × Int) (w : World) : (Instr.index 68 (.agg (tc [p0, p1, p2, p3, p4, p5, p6, p7]).toArray) (.int .i64 5)).run Try.prog w = .ok (.agg #[.int .i64 p5.1, .int .i64 p5.2]) w := by kernel_rfl
theorem sess_at6 (p0 p1 p2 p3 p4 p5 p6 p7 : Int × Int) (w : World) : (Instr.index 68 (.agg (tc [p0, p1, p2, p3, p4, p5, p6, p7]).toArray) (.int .i64 6)).run Try.prog w = .ok (.agg #[.int .i64 p6.1, .int .i64 p6.2]) w := by kernel_rfl
theorem sess_at7 (p0 p1 p2 p3 p4 p5 p6 p7 : Int × Int) (w : World) : (Instr.index 68 (.agg (tc [p0, p1, p2, p3, p4, p5, p6, p7]).toArray) (.int .i64 7)).run Try.prog w = .ok (.agg #[.int .i64 p7.1, .int .i64 p7.2]) w := by kernel_rfl
theorem sess_at (t : Tb) (h : t.length = 8) (k : Nat) (hk : k < 8) (w : World) : (Instr.index 68 (.agg (tc t).toArray) (.int .i64 k)).run Try.prog w = .ok (.agg #[.int .i64 (t[k]'(by omega)).1, .int .i64 (t[k]'(by omega)).2]) w := by
  match t, h with
  | [p0, p1, p2, p3, p4, p5, p6, p7], _ =>
    have hj8 : k = 0 ∨ k = 1 ∨ k = 2 ∨ k = 3 ∨ k = 4 ∨ k = 5 ∨ k = 6 ∨ k = 7 := by omega
    rcases hj8 with rfl | rfl | rfl | rfl | rfl | rfl | rfl | rfl
    · exact sess_at0 p0 p1 p2 p3 p4 p5 p6 p7 w
    · exact sess_at1 p0 p1 p2 p3 p4 p5 p6 p7 w
    · exact sess_at2 p0 p1 p2 p3 p4 p5 p6 p7 w
    · exact sess_at3 p0 p1 p2 p3 p4 p5 p6 p7 w
    · exact sess_at4 p0 p1 p2 p3 p4 p5 p6 p7 w
    · exact sess_at5 p0 p1 p2 p3 p4 p5 p6 p7 w
    · exact sess_at6 p0 p1 p2 p3 p4 p5 p6 p7 w
    · exact sess_at7 p0 p1 p2 p3 p4 p5 p6 p7 w
theorem tab_row {W : World} {g : Nat} {t : Tb} (h : Blk W g 68 (tc t).toArray) (ht : t.length = 8) : (loadVar 68 ⟨g, 0, none⟩).run Try.prog W = .ok (.agg (tc t).toArray) W :=
  run_loadVar_row (P := Try.prog) W g 68 68 _ _ _ h Try.underlying68 rfl (by rw [List.size_toArray, tc_len, ht]; exact tabS_info)
def fl (t : Tb) : List Int := t.flatMap fun p => [p.1, p.2]
theorem fl_len : ∀ t : Tb, (fl t).length = 2 * t.length
  | [] => rfl
  | p :: t => by have := fl_len t; simp only [fl, List.flatMap_cons, List.length_append, List.length_cons, List.length_nil] at this ⊢; omega
theorem hflat_any (gn bs : Int) (t : Tb) (ht : t.length = 8) (w : World) :
    Calls Try.prog 79 #[.int .i64 gn, .int .i64 bs, .agg (tc t).toArray] w fun e w' => ∃ A c, e = .returned (.slice A 18 c) ∧ RdI w' w'.heap.size A 18 c (gn :: bs :: fl t) ∧ Below w.heap.size w w' := by
  have Ht := Lib.hid ht
  have hb0 := (Below.refl w.heap.size w).alloc (Nat.le_refl _) (.cells (tc t).toArray 68)
  have kt := Blk.new w 68 (tc t).toArray
  go_enter Try.func79, Try.ntmps79
  go_upto_region 1 with (fail)
  obtain ⟨W, hW⟩ : ∃ W, w.alloc (.cells (tc t).toArray 68) = W := ⟨_, rfl⟩
  rw [hW] at hb0 kt ⊢
  clear hW
  obtain ⟨g, hg⟩ : ∃ g, w.heap.size = g := ⟨_, rfl⟩
  rw [hg] at kt hb0 ⊢
  have lt := kt.lt
  go_upto_region 2 with (fail)
  have ho : OwnI (W.alloc (.cells #[.int .i64 gn, .int .i64 bs] 3)) g (.slice (some ⟨W.heap.size, 0, none⟩) 2 2) [gn, bs] := World.ownsRow_lit W #[.int .i64 gn, .int .i64 bs] 2 (by omega) (by decide) rfl
  replace hb0 := hb0.alloc (by omega) (.cells #[.int .i64 gn, .int .i64 bs] 3)
  replace kt := kt.alloc (.cells #[.int .i64 gn, .int .i64 bs] 3)
  obtain ⟨V, hV⟩ : ∃ V, W.alloc (.cells #[.int .i64 gn, .int .i64 bs] 3) = V := ⟨_, rfl⟩
  rw [hV] at hb0 kt ho ⊢
  clear hV
  obtain ⟨z, hz⟩ : ∃ z, W.heap.size = z := ⟨_, rfl⟩
  rw [hz] at ho ⊢
  have lt := kt.lt
  have Ho := Lib.hid ho
  have Hb := Lib.hid hb0
  have Hg := Lib.hid hg
  clear ho hb0 hz hg
  go_upto_region 3 with (first | (refine wpList_load_blk rfl _ (.tmp 5) rfl g rfl _ (tab_row kt Ht.out) ?_))
  clear kt lt
  go_loopw [7, 9, 14] (fun vv q iv wr => ∃ (k n c : Nat) (A : Option Addr), k ≤ 8 ∧ iv = .int .i64 k ∧ vv = .slice A n c ∧ n = 2 * k + 2 ∧ Hid (OwnI wr g (.slice A n c) (gn :: bs :: fl (t.take k))) ∧ Hid (Below g w wr)) (fun _ _ iv _ => 8 - (intOf iv).toNat)
  case atStart => exact ⟨0, 2, 2, _, by omega, rfl, rfl, rfl, Ho, Hb⟩
  case round =>
    obtain ⟨k, n, c, A, hk, rfl, rfl, hn, hO, hbw⟩ := hrel
    by_cases hlt : k < 8
    · have hkl : k < t.length := by have := Ht.out; omega
      have hx := sess_at t Ht.out k hlt
      have hts := Lib.hid (show fl (t.take (k + 1)) = fl (t.take k) ++ [(t[k]'hkl).1, (t[k]'hkl).2] by unfold fl; rw [List.take_succ_eq_append_getElem hkl, List.flatMap_append]; rfl)
      obtain ⟨p, hp⟩ : ∃ p, p = t[k] := ⟨_, rfl⟩
      rw [← hp] at hts
      simp only [← hp] at hx
      clear hp
      obtain ⟨a, b⟩ := p
      simp only at hts hx
      have hk0 : (0 : Int) ≤ (k : Int) := by omega
      have hk8 : (k : Int) < 8 := by omega
      have hgw : g ≤ wr.heap.size := by have := hbw.out.size; have := Hg.out; omega
      have hxw := hx wr
      clear hx
      go_upto_region 5 with (fail)
      have hO2 := World.ownsRow.alloc hO.out (.cells #[.int .i64 a, .int .i64 b] 67)
      have hbw2 := hbw.out.alloc hgw (.cells #[.int .i64 a, .int .i64 b] 67)
      have kq := Blk.new wr 67 #[.int .i64 a, .int .i64 b]
      have hs1 : (wr.alloc (.cells #[.int .i64 a, .int .i64 b] 67)).heap.size = wr.heap.size + 1 := World.size_alloc _ _
      obtain ⟨U, hU⟩ : ∃ U, wr.alloc (.cells #[.int .i64 a, .int .i64 b] 67) = U := ⟨_, rfl⟩
      rw [hU] at hO2 hbw2 kq hs1 ⊢
      clear hU hxw
      obtain ⟨z, hz⟩ : ∃ z, wr.heap.size = z := ⟨_, rfl⟩
      rw [hz] at kq hs1 hgw ⊢
      have c0 := kq.cell 0
      have c1 := kq.cell 1
      have lq := kq.lt
      have hgU : g ≤ U.heap.size := by omega
      have hO3 : OwnI (U.alloc (.cells #[.int .i64 a, .int .i64 b] 3)) g (.slice A n c) (gn :: bs :: fl (t.take k)) := by
        have := World.ownsRow.alloc hO2 (.cells #[.int .i64 a, .int .i64 b] 3)
        exact this
      have hlen : (gn :: bs :: fl (t.take k)).length + 2 ≤ 4000000 := by
        simp only [List.length_cons, fl_len, List.length_take]; omega
      have hR := RdI.built U #[.int .i64 a, .int .i64 b] [a, b] 2 rfl rfl (by decide)
      have hgU2 : g ≤ (U.alloc (.cells #[.int .i64 a, .int .i64 b] 3)).heap.size := by rw [World.size_alloc]; omega
      have hbw3 := hbw2.alloc hgU (.cells #[.int .i64 a, .int .i64 b] 3)
      have HO3 := Lib.hid hO3
      have Hlen := Lib.hid hlen
      have HR := Lib.hid hR
      have Hbw3 := Lib.hid hbw3
      have HgU2 := Lib.hid hgU2
      clear hO2 hO3 hlen hR hbw2 hbw3 hgU2 hs1
      go_wp2_with (first | (at_builtin; refine wpList_app_intsG _ rfl (.tmp 17) (.tmp 22) rfl g (.slice A n c) _ rfl HO3.out _ 2 2 _ [a, b] rfl HR.out Hlen.out HgU2.out ?_; intro v1 w1 g1 g2 g3))
      go_roundw
      case rel =>
        obtain ⟨A1, c1, hv1, -⟩ := OwnI.rd g1
        have hl2 : ((gn :: bs :: fl (t.take k)) ++ [a, b]).length = 2 * (k + 1) + 2 := by
          simp only [List.length_append, List.length_cons, List.length_nil, fl_len, List.length_take]; have := Ht.out; omega
        rw [hl2] at hv1
        subst hv1
        refine ⟨k + 1, 2 * (k + 1) + 2, c1, A1, by omega, by go_num, rfl, rfl, Lib.hid ?_, Lib.hid (Hbw3.out.trans g2)⟩
        rw [hts.out]
        exact g1
      case measure => simp [intOf]; omega
    · obtain rfl : k = 8 := by omega
      subst hn
      go_wp2_with fail
      go_ret
      have h1 := hO.out
      rw [List.take_of_length_le (by have := Ht.out; omega)] at h1
      obtain ⟨A1, c1, hv1, hr⟩ := OwnI.rd h1
      have hl2 : (gn :: bs :: fl t).length = 18 := by simp only [List.length_cons, fl_len]; have := Ht.out; omega
      rw [hl2] at hv1 hr
      injection hv1 with e1 e2 e3
      subst e1; subst e3
      exact ⟨_, _, rfl, hr, Hg.out ▸ hbw.out⟩
/-- the text of a head -/
def hdB (g b : Nat) (t : List (Nat × Nat)) (text : ByteArray) : ByteArray := ⟨(txF (1, ⟨(headB ((g, b) :: t) text).toArray⟩)).toArray⟩
def tbN (t : List (Nat × Nat)) : Tb := t.map fun p => ((p.1 : Int), (p.2 : Int))
def flN (t : List (Nat × Nat)) : List Nat := t.flatMap fun p => [p.1, p.2]
theorem flN_map (t : List (Nat × Nat)) : (flN t).map Int.ofNat = fl (tbN t) := by
  induction t with
  | nil => rfl
  | cons p t ih =>
    simp only [flN, fl, tbN, List.flatMap_cons, List.map_cons, List.map_append, List.map_nil, List.map_flatMap] at ih ⊢
    simp only [List.cons_append, List.nil_append]
    rw [ih]
    rfl
theorem flN_vi (t : List (Nat × Nat)) : viC (flN t) = tkB t := by
  induction t with
  | nil => rfl
  | cons p t ih =>
    simp only [viC, flN, tkB, List.flatMap_cons, List.flatMap_append, List.flatMap_nil, List.append_nil] at ih ⊢
    rw [ih]
theorem flN_len : ∀ t : List (Nat × Nat), (flN t).length = 2 * t.length
  | [] => rfl
  | p :: t => by have := flN_len t; simp only [flN, List.flatMap_cons, List.length_append, List.length_cons, List.length_nil] at this ⊢; omega
theorem flN_le (t : List (Nat × Nat)) (h : ∀ p ∈ t, p.1 ≤ 2147483647 ∧ p.2 ≤ 2147483647) : ∀ x ∈ flN t, x ≤ 2147483647 := by
  intro x hx
  unfold flN at hx
  obtain ⟨p, hp, hx⟩ := List.mem_flatMap.1 hx
  have := h p hp
  simp only [List.mem_cons, List.not_mem_nil, or_false] at hx
  rcases hx with rfl | rfl <;> omega
theorem hhead_large (g b : Nat) (t : List (Nat × Nat)) (text : ByteArray) (ht : t.length = 8) (hg : g ≤ 2147483647) (hb : b ≤ 2147483647) (hp : ∀ p ∈ t, p.1 ≤ 2147483647 ∧ p.2 ≤ 2147483647) (w : World) (hx : 500 < text.size) (hx2 : text.size ≤ 140737488351232) :
    Calls Try.prog 40 #[.int .i64 g, .int .i64 b, .string text, .agg (tc (tbN t)).toArray] w fun e w' => e = .returned (.tuple #[.string ⟨#[]⟩, .int .i64 2]) ∧ Below w.heap.size w w' := by
  have htb : (tbN t).length = 8 := by simp [tbN, ht]
  have hfl := fun w => hflat_any g b (tbN t) htb w
  have hmap : (g :: b :: flN t).map Int.ofNat = (g : Int) :: (b : Int) :: fl (tbN t) := by simp only [List.map_cons]; rw [flN_map]; rfl
  obtain ⟨S, hS⟩ : ∃ S : ByteArray, S.data.toList = viC (g :: b :: flN t) := ⟨⟨(viC (g :: b :: flN t)).toArray⟩, by simp⟩
  have hnum := fun A c w (h : RdI w w.heap.size A 18 c ((g : Int) :: (b : Int) :: fl (tbN t))) => nums_good (g :: b :: flN t) A 18 c w (by rw [hmap]; exact h) (by
    intro x hx
    rcases List.mem_cons.1 hx with rfl | hx
    · exact hg
    · rcases List.mem_cons.1 hx with rfl | hx
      · exact hb
      · exact flN_le t hp x hx) (by simp only [List.length_cons, flN_len]; omega) S hS
  have Hfl := Lib.hid hfl
  have Hnum := Lib.hid hnum
  have Htb := Lib.hid htb
  have hb0 := (Below.refl w.heap.size w).alloc (Nat.le_refl _) (.cells (tc (tbN t)).toArray 68)
  have kt := Blk.new w 68 (tc (tbN t)).toArray
  have hx3 : (500 : Int) < (text.size : Int) := by omega
  clear hfl hnum htb hmap hp hS
  go_enter Try.func40, Try.ntmps40
  go_upto_region 1 with (fail)
  obtain ⟨W, hW⟩ : ∃ W, w.alloc (.cells (tc (tbN t)).toArray 68) = W := ⟨_, rfl⟩
  rw [hW] at hb0 kt ⊢
  clear hW
  obtain ⟨z, hz⟩ : ∃ z, w.heap.size = z := ⟨_, rfl⟩
  rw [hz] at kt hb0 ⊢
  go_wp2_with (first | (refine wpList_load_blk rfl _ (.tmp 7) rfl z rfl _ (tab_row kt Htb.out) ?_))
  refine (Hfl.out W).mono ?_
  rintro e w1 ⟨A, c, rfl, hr, hb1⟩
  have HR := Lib.hid hr
  have hs1 : z ≤ W.heap.size := by have := hb0.size; omega
  replace hb0 := hb0.trans (hb1.mono hs1)
  have hs2 := hb1.size
  clear hr hb1
  go_wp2_with fail
  refine (Hnum.out A c w1 HR.out).mono ?_
  rintro e w2 ⟨rfl, hb2⟩
  go_wp2_with fail
  go_ret2
  exact ⟨rfl, hz ▸ hb0.trans (hb2.mono (by omega))⟩
theorem hhead_good (g b : Nat) (t : List (Nat × Nat)) (text : ByteArray) (ht : t.length = 8) (hg : g ≤ 2147483647) (hb : b ≤ 2147483647) (hp : ∀ p ∈ t, p.1 ≤ 2147483647 ∧ p.2 ≤ 2147483647) (w : World) (hx : text.size ≤ 500) :
    Calls Try.prog 40 #[.int .i64 g, .int .i64 b, .string text, .agg (tc (tbN t)).toArray] w fun e w' => e = .returned (.tuple #[.string (hdB g b t text), .int .i64 0]) ∧ Below w.heap.size w w' := by
  have htb : (tbN t).length = 8 := by simp [tbN, ht]
  have hfl := fun w => hflat_any g b (tbN t) htb w
  have hmap : (g :: b :: flN t).map Int.ofNat = (g : Int) :: (b : Int) :: fl (tbN t) := by simp only [List.map_cons]; rw [flN_map]; rfl
  obtain ⟨S, hS⟩ : ∃ S : ByteArray, S.data.toList = viC (g :: b :: flN t) := ⟨⟨(viC (g :: b :: flN t)).toArray⟩, by simp⟩
  have hpq : ∀ p ∈ (g, b) :: t, p.1 ≤ 2147483647 ∧ p.2 ≤ 2147483647 := by
    intro p hpp
    rcases List.mem_cons.1 hpp with rfl | hpp
    · exact ⟨hg, hb⟩
    · exact hp p hpp
  have hnum := fun A c w (h : RdI w w.heap.size A 18 c ((g : Int) :: (b : Int) :: fl (tbN t))) => nums_good (g :: b :: flN t) A 18 c w (by rw [hmap]; exact h) (fun x hx => flN_le ((g, b) :: t) hpq x hx) (by simp only [List.length_cons, flN_len]; omega) S hS
  have hSl : S.data.toList = tkB ((g, b) :: t) := by rw [hS]; exact flN_vi ((g, b) :: t)
  have hlen := tkB_len ((g, b) :: t) hpq
  rw [List.length_cons, ht] at hlen
  have hS90 : S.size ≤ 90 := by
    have h1 : S.data.toList.length = S.size := rfl
    rw [hSl] at h1
    omega
  have hcat : (⟨(headB ((g, b) :: t) text).toArray⟩ : ByteArray) = S ++ text := by
    apply ba_list
    rw [bs_append, hSl]
    simp [headB]
  have hput := fun w => put_okF (1, S ++ text) ⟨by show (1 : Int) ≤ 1; decide, by show (1 : Int) ≤ 255; decide, by show (S ++ text).size ≤ 4000; simp; omega⟩ w
  have hBB : (⟨(txF (1, S ++ text)).toArray⟩ : ByteArray) = hdB g b t text := by unfold hdB; rw [hcat]
  rw [hBB] at hput
  obtain ⟨HB, hHB⟩ : ∃ HB, hdB g b t text = HB := ⟨_, rfl⟩
  rw [hHB] at hput ⊢
  have Hput := Lib.hid hput
  have Hfl := Lib.hid hfl
  have Hnum := Lib.hid hnum
  have Htb := Lib.hid htb
  have hb0 := (Below.refl w.heap.size w).alloc (Nat.le_refl _) (.cells (tc (tbN t)).toArray 68)
  have kt := Blk.new w 68 (tc (tbN t)).toArray
  have hx3 : (text.size : Int) ≤ 500 := by omega
  have hsz : (9223372036854775807 < S.size + text.size) = False := by simp; omega
  clear hfl hnum htb hmap hp hS hpq hSl hlen hput hBB hHB hcat
  go_enter Try.func40, Try.ntmps40
  go_upto_region 1 with (fail)
  obtain ⟨W, hW⟩ : ∃ W, w.alloc (.cells (tc (tbN t)).toArray 68) = W := ⟨_, rfl⟩
  rw [hW] at hb0 kt ⊢
  clear hW
  obtain ⟨z, hz⟩ : ∃ z, w.heap.size = z := ⟨_, rfl⟩
  rw [hz] at kt hb0 ⊢
  go_wp2_with (first | (refine wpList_load_blk rfl _ (.tmp 7) rfl z rfl _ (tab_row kt Htb.out) ?_))
  refine (Hfl.out W).mono ?_
  rintro e w1 ⟨A, c, rfl, hr, hb1⟩
  have HR := Lib.hid hr
  have hs1 : z ≤ W.heap.size := by have := hb0.size; omega
  replace hb0 := hb0.trans (hb1.mono hs1)
  have hs2 := hb1.size
  clear hr hb1
  go_wp2_with fail
  refine (Hnum.out A c w1 HR.out).mono ?_
  rintro e w2 ⟨rfl, hb2⟩
  replace hb0 := hb0.trans (hb2.mono (by omega))
  have hs3 := hb2.size
  clear hb2
  go_wp2_with fail
  refine (Hput.out w2).mono ?_
  rintro e w3 ⟨rfl, hb3⟩
  go_wp2_with fail
  go_ret2
  exact ⟨rfl, hz ▸ hb0.trans (hb3.mono (by omega))⟩
end Go.Proofs.Ytfncpcmaplhojaa
