/- What is written into a log is read again (pure). slices.Clone of ints. What turn.Of says; plain lists, no program. What undo.Of says, and what comes between two revisions; plain lists, no program. Whose each byte is; plain lists, no program. Contract of blame.Of. -/
import Derived.Test.YtokngfinnieccaaW7
import Derived.Test.YtokngfinnieccaaW6
import Derived.Test.YtokngfinnieccaaW4
namespace Go.Proofs.Ytokngfinnieccaa
set_option linter.unusedVariables false
set_option linter.unusedSimpArgs false
set_option maxRecDepth 100000

theorem wrP_w (p : Pt) (h : fitE p = 0) : ((wrP p).length : Int) ≤ 3 * (szI [p] + szO [p]) := by
  obtain ⟨h1, h2, h3⟩ := (fitE_zero p).1 h
  have ht : p.2.2.data.toList.length = p.2.2.size := rfl
  unfold wrP
  rcases h1 with ⟨ha, hb, hc⟩ | ⟨ha, hb, hc⟩
  · have h2' : p.1 ≠ 2 := by omega
    rw [if_neg h2']
    have := vi_len 2 (4 * p.2.1.toNat + p.1.toNat) (by omega) (by omega)
    simp only [szI, szO, if_pos ha]
    split
    · omega
    · split <;> omega
  · have h2' : ¬ (p.1 = 1 ∨ p.1 = 3) := by omega
    rw [if_pos ha, List.length_append, ht]
    have := vi_len 2 (4 * p.2.2.size + 2) (by omega) (by omega)
    simp only [szI, szO, if_neg h2', if_neg (show ¬ p.1 = 1 by omega), if_neg (show ¬ p.1 = 3 by omega)]
    omega
theorem wrM_w : ∀ (l : List Pt), (∀ p ∈ l, fitE p = 0) → ((l.flatMap wrP).length : Int) ≤ 3 * (szI l + szO l)
  | [], _ => by simp [szI, szO]
  | p :: l, h => by
    have h1 := wrP_w p (h p (by simp))
    have h2 := wrM_w l fun q hq => h q (by simp [hq])
    rw [List.flatMap_cons, List.length_append]
    simp only [szI, szO] at h1 h2 ⊢
    omega
/-- a delta that may be has few bytes -/
theorem wr_small {l : List Pt} (h : chk l = 0) : (wrL l).length ≤ 3010 := by
  have hg := (good_iff l).1 h
  have := wrM_w l hg.2.2.1
  have := vi_len 2 l.length (by omega) (by omega)
  unfold wrL
  rw [List.length_append]
  omega
/-- the body of a revision -/
def bodyR (r : Rv) : List UInt8 := vi r.1.toNat ++ (vi r.2.1.toNat ++ wrL r.2.2)
def frR (r : Rv) : Fm := (2, ⟨(bodyR r).toArray⟩)
theorem one_parts {r : Rv} (h : oneE r = 0) : 0 ≤ r.1 ∧ r.1 ≤ 7 ∧ 0 ≤ r.2.1 ∧ r.2.1 ≤ 2147483647 ∧ chk r.2.2 = 0 := by
  unfold oneE at h
  split at h
  · omega
  · rename_i h1; exact ⟨by omega, by omega, by omega, by omega, h⟩
theorem body_len {r : Rv} (h : oneE r = 0) : (bodyR r).length ≤ 4000 := by
  obtain ⟨h1, h2, h3, h4, h5⟩ := one_parts h
  have a := vi_len 1 r.1.toNat (by omega) (by omega)
  have b := vi_len 5 r.2.1.toNat (by omega) (by omega)
  have c := wr_small h5
  simp only [bodyR, List.length_append]
  omega
theorem frR_ok {r : Rv} (h : oneE r = 0) : okF (frR r) := ⟨by show (1 : Int) ≤ 2; decide, by show (2 : Int) ≤ 255; decide, by show (bodyR r).toArray.size ≤ 4000; rw [List.size_toArray]; exact body_len h⟩
/-- may these come, one after the other? -/
def okRs : Lg → ByteArray → List Rv → Prop
  | _, _, [] => True
  | l, t, r :: rs => oneE r = 0 ∧ nextE l t.size r = 0 ∧ okRs { addL l r with good := l.good + (((bodyR r).length + 7 : Nat) : Int) } (doS r.2.2 t) rs
/-- a log with revisions behind it -/
def addLs : Lg → List Rv → Lg
  | l, [] => l
  | l, r :: rs => addLs { addL l r with good := l.good + (((bodyR r).length + 7 : Nat) : Int) } rs
theorem addLs_same : ∀ (rs : List Rv) (l : Lg), (addLs l rs).gen = l.gen ∧ (addLs l rs).base = l.base ∧ (addLs l rs).text = l.text ∧ (addLs l rs).first = l.first ∧ (addLs l rs).revs = l.revs ++ rs ∧ (addLs l rs).whole = l.whole ∧ (addLs l rs).good = l.good + ((flat (rs.map frR)).length : Nat)
  | [], l => by simp [addLs, flat]
  | r :: rs, l => by
    obtain ⟨a, b, c, d, e, f, g⟩ := addLs_same rs { addL l r with good := l.good + (((bodyR r).length + 7 : Nat) : Int) }
    have hs : (frR r).2.size = (bodyR r).length := by show (bodyR r).toArray.size = _; rw [List.size_toArray]
    refine ⟨a, b, c, d, ?_, f, ?_⟩
    · simp only [addLs]; rw [e]; simp [addL]
    · simp only [addLs, List.map_cons, flat, List.length_append, txF_len]; rw [g, hs]; simp only [addL]; omega
/-- a log and the text behind its revisions -/
structure Hg (l : Lg) (t : ByteArray) : Prop extends Rd_ l t where
  tx : txE l.text l.revs = 0
  now : Go.Proofs.Ytokngfinnieccaa.txt l.text l.revs l.revs.length = t
theorem txt_snoc : ∀ (l : List Rv) (s : ByteArray) (r : Rv), txt s (l ++ [r]) (l.length + 1) = doS r.2.2 (txt s l l.length)
  | [], s, r => rfl
  | q :: l, s, r => txt_snoc l _ r
/-- heads -/
def tkB (t : List (Nat × Nat)) : List UInt8 := t.flatMap fun p => vi p.1 ++ vi p.2
def headB (t : List (Nat × Nat)) (text : ByteArray) : List UInt8 := tkB t ++ text.data.toList
theorem tkB_len : ∀ (t : List (Nat × Nat)), (∀ p ∈ t, p.1 ≤ 2147483647 ∧ p.2 ≤ 2147483647) → (tkB t).length ≤ 10 * t.length
  | [], _ => Nat.le_refl _
  | p :: t, h => by
    obtain ⟨h1, h2⟩ := h p (by simp)
    have a := vi_len 5 p.1 (by omega) (by omega)
    have b := vi_len 5 p.2 (by omega) (by omega)
    have c := tkB_len t fun q hq => h q (List.mem_cons_of_mem _ hq)
    simp only [tkB, List.flatMap_cons, List.length_append, List.length_cons] at c ⊢
    omega
end Go.Proofs.Ytokngfinnieccaa
namespace Go.Proofs.Ytokngfinnieccaa
open Go.ChangeShapes Go.WideShapes Go.RowKit
set_option linter.unusedVariables false
set_option linter.unusedSimpArgs false
set_option maxRecDepth 100000
set_option maxHeartbeats 4000000

end Go.Proofs.Ytokngfinnieccaa
namespace Go.Proofs.Ytokngfinnieccaa
set_option linter.unusedVariables false
set_option linter.unusedSimpArgs false

end Go.Proofs.Ytokngfinnieccaa
namespace Go.Proofs.Ytokngfinnieccaa
set_option linter.unusedVariables false
set_option linter.unusedSimpArgs false

theorem txr_at : ∀ (l : List Rv) (s : ByteArray) (k : Nat) (h : k < l.length), txr s l = 0 → oneE l[k] = 0 ∧ doE (l[k]).2.2 (txt s l k) = 0 ∧ txt s l (k + 1) = doS (l[k]).2.2 (txt s l k)
  | [], s, k, h, _ => absurd h (by simp)
  | r :: l, s, 0, _, h => by
    simp only [txr] at h
    split at h
    · omega
    · split at h
      · omega
      · rename_i h1 h2
        refine ⟨by simpa using h1, by simpa [txt] using h2, ?_⟩
        cases l <;> simp [txt]
  | r :: l, s, k + 1, hk, h => by
    simp only [txr] at h
    split at h
    · omega
    · split at h
      · omega
      · have := txr_at l (doS r.2.2 s) k (by simpa using hk) h
        simpa [txt] using this
/-- bytes that are cut -/
def nC : List U → Nat
  | [] => 0
  | some none :: r => nC r + 1
  | _ :: r => nC r
end Go.Proofs.Ytokngfinnieccaa
namespace Go.Proofs.Ytokngfinnieccaa
set_option linter.unusedVariables false
set_option linter.unusedSimpArgs false

theorem g_keep {α : Type} (f : UInt8 → α) {N : Nat} {t : ByteArray} {l : List Pt} {acc r : List α} {R : List α} (h : acc ++ ap f (units ((1, (N : Int), t) :: l)) r = R) (hn : nI (units ((1, (N : Int), t) :: l)) = r.length) :
    (acc ++ r.take N) ++ ap f (units l) (r.drop N) = R ∧ nI (units l) = (r.drop N).length ∧ N ≤ r.length := by
  have e : up ((1, (N : Int), t) : Pt) = List.replicate N none := by simp [up]
  rw [units_cons, e] at h hn
  rw [nI_append, nI_keeps] at hn
  have h3 : (r.take N).length = N := by rw [List.length_take]; omega
  have h4 := ap_append f (List.replicate N none) (units l) (r.take N) (r.drop N) (by rw [nI_keeps, h3])
  rw [List.take_append_drop] at h4
  rw [h4] at h
  have h5 := ap_keeps (α := α) f (r.take N)
  rw [h3] at h5
  rw [h5] at h
  refine ⟨by rw [List.append_assoc]; exact h, by rw [List.length_drop]; omega, by omega⟩
theorem g_cut {α : Type} (f : UInt8 → α) {N : Nat} {t : ByteArray} {l : List Pt} {acc r : List α} {R : List α} (h : acc ++ ap f (units ((3, (N : Int), t) :: l)) r = R) (hn : nI (units ((3, (N : Int), t) :: l)) = r.length) :
    acc ++ ap f (units l) (r.drop N) = R ∧ nI (units l) = (r.drop N).length ∧ N ≤ r.length := by
  have e : up ((3, (N : Int), t) : Pt) = List.replicate N (some none) := by simp [up]
  rw [units_cons, e] at h hn
  rw [nI_append, nI_cuts] at hn
  have h3 : (r.take N).length = N := by rw [List.length_take]; omega
  have h4 := ap_append f (List.replicate N (some none)) (units l) (r.take N) (r.drop N) (by rw [nI_cuts, h3])
  rw [List.take_append_drop] at h4
  rw [h4] at h
  have h5 := ap_cuts (α := α) f (r.take N)
  rw [h3] at h5
  rw [h5] at h
  exact ⟨by simpa using h, by rw [List.length_drop]; omega, by omega⟩
theorem g_put {α : Type} (c : α) {N : Int} {t : ByteArray} {l : List Pt} {acc r : List α} {R : List α} (h : acc ++ ap (fun _ => c) (units ((2, N, t) :: l)) r = R) (hn : nI (units ((2, N, t) :: l)) = r.length) :
    (acc ++ List.replicate t.size c) ++ ap (fun _ => c) (units l) r = R ∧ nI (units l) = r.length := by
  have e : up ((2, N, t) : Pt) = t.data.toList.map (fun b => some (some b)) := by simp [up]
  have h0 : nI (t.data.toList.map (fun b => (some (some b) : U))) = 0 := nI_pu t
  rw [units_cons, e] at h hn
  rw [nI_append, h0] at hn
  rw [ap_puts] at h
  have e2 : t.data.toList.map (fun _ => c) = List.replicate t.size c := by rw [List.map_const']; rfl
  rw [e2] at h
  exact ⟨by rw [List.append_assoc]; exact h, by omega⟩
/-- who is behind revisions, from number k on -/
def blL : Nat → List Int → List Rv → List Int
  | _, who, [] => who
  | k, who, r :: l => blL (k + 1) (ap (fun _ => (k : Int) + 1) (units r.2.2) who) l
theorem bl_step {k : Nat} {W : List Int} {s : ByteArray} {r : Rv} {l : List Rv} {R : List Int} (h : blL k W (r :: l) = R ∧ txr s (r :: l) = 0 ∧ W.length = s.size ∧ s.size ≤ 500) :
    chk r.2.2 = 0 ∧ nI (units r.2.2) = W.length ∧ (ap (fun _ => (k : Int) + 1) (units r.2.2) W).length ≤ 500 ∧
    (blL (k + 1) (ap (fun _ => (k : Int) + 1) (units r.2.2) W) l = R ∧ txr (doS r.2.2 s) l = 0 ∧ (ap (fun _ => (k : Int) + 1) (units r.2.2) W).length = (doS r.2.2 s).size ∧ (doS r.2.2 s).size ≤ 500) := by
  obtain ⟨h1, h2, h3, h4⟩ := h
  simp only [txr] at h2
  split at h2
  · omega
  · split at h2
    · omega
    · rename_i q1 q2
      have q2' : doE r.2.2 s = 0 := by omega
      have hk := do_chk q2'
      have hz := do_size q2'
      have hl : nI (units r.2.2) = W.length := by rw [hk.2.1, h3]
      have ha := ap_length (fun _ => (k : Int) + 1) (units r.2.2) W hl
      have h5 := do_le q2'
      exact ⟨hk.1, hl, by omega, h1, h2, by omega, h5⟩
/-- whose each byte of the last text is -/
def blame (base : ByteArray) (l : List Rv) : List Int := blL 0 (List.replicate base.size 0) l
theorem bl_len : ∀ (l : List Rv) (k : Nat) (W : List Int) (s : ByteArray), txr s l = 0 → W.length = s.size → (blL k W l).length = (txt s l l.length).size
  | [], k, W, s, _, h => by simpa [blL, txt] using h
  | r :: l, k, W, s, h, h2 => by
    simp only [txr] at h
    split at h
    · omega
    · split at h
      · omega
      · rename_i q1 q2
        have q2' : doE r.2.2 s = 0 := by omega
        have hk := do_chk q2'
        have ha := ap_length (fun _ => (k : Int) + 1) (units r.2.2) W (by rw [hk.2.1, h2])
        simp only [blL, txt, List.length_cons]
        exact bl_len l (k + 1) _ (doS r.2.2 s) h (by rw [ha, do_size q2'])
theorem blame_len {base : ByteArray} {l : List Rv} (h : txE base l = 0) : (blame base l).length = (txt base l l.length).size :=
  bl_len l 0 _ base (txE_parts h).2.2 (by simp)
theorem ap_mem {α : Type} (P : α → Prop) (f : UInt8 → α) (hf : ∀ b, P (f b)) : ∀ (us : List U) (s : List α), (∀ x ∈ s, P x) → ∀ x ∈ ap f us s, P x
  | [], s, h, x, hx => by simp only [ap] at hx; first | exact h x hx | simp at hx
  | none :: us, [], h, x, hx => by simp only [ap] at hx; simp at hx
  | none :: us, y :: s, h, x, hx => by
    simp only [ap, List.mem_cons] at hx
    rcases hx with rfl | hx
    · exact h _ (by simp)
    · exact ap_mem P f hf us s (fun z hz => h z (by simp [hz])) x hx
  | some none :: us, [], h, x, hx => by simp only [ap] at hx; simp at hx
  | some none :: us, y :: s, h, x, hx => by
    simp only [ap] at hx
    exact ap_mem P f hf us s (fun z hz => h z (by simp [hz])) x hx
  | some (some b) :: us, s, h, x, hx => by
    simp only [ap, List.mem_cons] at hx
    rcases hx with rfl | hx
    · exact hf b
    · exact ap_mem P f hf us s h x hx
end Go.Proofs.Ytokngfinnieccaa
namespace Go.Proofs.Ytokngfinnieccaa
open Go.ChangeShapes Go.WideShapes Go.RowKit
set_option linter.unusedVariables false
set_option linter.unusedSimpArgs false
set_option maxRecDepth 100000
set_option maxHeartbeats 4000000

theorem ic_take (l : List Int) (k : Nat) : ic (l.take k) = (ic l).take k := by simp [ic, List.map_take]
theorem ic_drop (l : List Int) (k : Nat) : ic (l.drop k) = (ic l).drop k := by simp [ic, List.map_drop]
theorem RdI.take {w : World} {B n c : Nat} {A : Option Addr} {l : List Int} (h : RdI w B A n c l) (k : Nat) (hk : k ≤ n) : RdI w B A k c (l.take k) := by
  obtain ⟨h0, hr⟩ := h
  refine ⟨by rw [List.length_take]; omega, by have := hr.1; omega, hr.2.1, by rw [ic_len, List.length_take]; omega, fun h1 => ?_⟩
  obtain ⟨b, o, e, hb, hc⟩ := hr.2.2.2 (by omega)
  refine ⟨b, o, e, hb, fun j u hj => hc j u ?_⟩
  rw [ic_take, List.getElem?_take] at hj
  split at hj
  · exact hj
  · cases hj
theorem RdI.builtS (w : World) (cs : Array Value) (l : List Int) (n : Nat) (hn : n = l.length) (hc : cs.toList = ic l) (hm : n ≤ maxLen) : RdI (w.alloc (.cells cs 3)) (w.alloc (.cells cs 3)).heap.size (some ⟨w.heap.size, 0, none⟩) n n l := by
  have := RdI.built w cs l n hn hc hm
  rwa [show w.heap.size + 1 = (w.alloc (.cells cs 3)).heap.size by simp] at this
theorem RdI.caps {w : World} {B n c : Nat} {A : Option Addr} {l : List Int} (h : RdI w B A n c l) : n ≤ c ∧ c ≤ 9223372036854775807 := by
  have h1 := h.2.1; have h2 := h.2.2.1; unfold maxLen at h2; exact ⟨h1, h2⟩
theorem RdI.rest {w : World} {B n c : Nat} {A : Option Addr} {l : List Int} (h : RdI w B A n c l) (k : Nat) (hk : k ≤ n) (A' : Option Addr) (hA : A' = if c = k then A else Option.map (fun x : Addr => x.add k) A) : RdI w B A' (n - k) (c - k) (l.drop k) := by
  have hcp := h.caps
  obtain ⟨h0, hr⟩ := h
  refine ⟨by rw [List.length_drop]; omega, by omega, by have := hr.2.1; omega, by rw [ic_len, List.length_drop]; omega, fun h1 => ?_⟩
  obtain ⟨b, o, e, hb, hc⟩ := hr.2.2.2 (by omega)
  refine ⟨b, o + k, ?_, hb, fun j u hj => ?_⟩
  · rw [hA, if_neg (by omega), e]
    simp only [Option.map_some, Addr.add]
    by_cases h2 : k = 0
    · simp [h2]
    · simp [h2]
  · rw [ic_drop, List.getElem?_drop] at hj
    have := hc _ u hj
    rwa [← Nat.add_assoc] at this
theorem wpList_app_intsG {ops : Array Oper} {rest : List Oper} {o : Oper} {a : Act} {Q : Exit → Act → World → Prop} (w : World) (hgd : o.guard = none) (s x : Operand)
    (ho : o.op = .call { callee := .builtin .append, args := #[s, x], argTypes := #[33, 33] })
    (B : Nat) (v : Value) (l : List Int) (hs : a.eval s = v) (hown : OwnI w B v l)
    (A : Option Addr) (m c B' : Nat) (l' : List Int) (hx : a.eval x = .slice A m c) (hr : RdI w B' A m c l')
    (hn : l.length + m ≤ 4000000) (hB : B ≤ w.heap.size)
    (h : ∀ v' w', OwnI w' B v' (l ++ l') → Below B w w' → w.grownBy w' v.ownBlock → wpList Try.prog ops Q rest (a.put o.dst v') w') :
    wpList Try.prog ops Q (o :: rest) a w := by
  obtain ⟨i0, hi, hz0, hz1, hz2⟩ := info_parts Try.info_int
  refine wpList_append_any w hgd s x 33 ho B 3 i0 _ 1 8 Try.underlying33 hi hz0 hz1 hz2 rfl (by omega) v _ _ hs hown B' A m c (ic l') hx ?_ ?_ (by simp only [maxLen]; omega) (by omega) hB ?_
  · refine ⟨by rw [ic_len, hr.1]; omega, fun h0 => ?_⟩
    obtain ⟨b, o', e, hb, hc⟩ := hr.2.2.2.2 h0
    refine ⟨_, e, hb, fun j u hj => ?_⟩
    have := hc j u hj
    by_cases h00 : j = 0
    · subst h00; simpa [Addr.add] using this
    · simpa [Addr.add, h00] using this
  · intro u hu
    unfold ic at hu
    obtain ⟨p, _, rfl⟩ := List.mem_map.1 hu
    rfl
  · intro v' w' h2 h3 h4
    refine h v' w' ?_ (below_grown h3 hB (own_ge hown)) h3
    unfold OwnI
    have e : ic (l ++ l') = ic l ++ ic l' := by simp [ic]
    rw [e, List.length_append, ← hr.1]
    exact h2
theorem ic_rep (n : Nat) : (madeCells #[.int .i64 0] n).toList = ic (List.replicate n 0) := by
  rw [toList_madeCells_one]
  simp [ic]
theorem blame_good (base : ByteArray) (l : List Rv) (A : Option Addr) (n c B : Nat) (w : World) (h : RdR w B A n c l) (hB : B ≤ w.heap.size) (he : txE base l = 0) (R : List Int) (hR : blame base l = R) :
    Calls Try.prog 18 #[.string base, .slice A n c] w fun e w' => ∃ A1 n1 c1, e = .returned (.tuple #[.slice A1 n1 c1, .int .i64 0]) ∧ RdI w' w'.heap.size A1 n1 c1 R ∧ Below w.heap.size w w' := by
  have hp := txE_parts he
  have hc := rcheck_any base l A n c B w h hB (by omega)
  rw [he] at hc
  have Hc := Lib.hid hc
  have hn : n = l.length := h.1
  have hn64 : (n : Int) ≤ 64 := by omega
  have hb5 : (base.size : Int) ≤ 500 := by omega
  have H := Lib.hid h
  have Hst : Hid (blL 0 (List.replicate base.size 0) (l.drop 0) = R ∧ txr base (l.drop 0) = 0 ∧ (List.replicate base.size (0 : Int)).length = base.size ∧ base.size ≤ 500) := Lib.hid ⟨hR, hp.2.2, by simp, hp.1⟩
  clear hc h he hp hn hR
  go_enter Try.func18, Try.ntmps18
  go_wp2_with fail
  refine Hc.out.mono ?_
  rintro e w1 ⟨rfl, hb1⟩
  have hs1 := hb1.size
  obtain ⟨i0, hi, hz0, hz1, hz2⟩ := info_parts Try.info_int
  go_wp2_with (first | (at_make; go_loud (refine wpList_make_full _ rfl (.tmp 20) (.tmp 20) 33 rfl w.heap.size 3 i0 _ 1 Try.underlying33 hi hz0 hz1 .i64 .i64 _ _ base.size rfl rfl rfl rfl (by rw [hz2]; omega) (by simp only [maxLen]; omega) hs1 ?_)))
  intro w2 hown2 hgr2
  rw [ic_rep] at hown2
  have hown2' : OwnI w2 w.heap.size (.slice (some ⟨w1.heap.size, 0, none⟩) base.size base.size) (List.replicate base.size 0) := by
    unfold OwnI; rw [List.length_replicate]; exact hown2
  obtain ⟨A2, c2, e2, hr2⟩ := hown2'.rd
  have hw2 := hb1.trans (below_grown hgr2 hs1 (by simp))
  obtain ⟨N, hN⟩ : ∃ N, (List.replicate base.size (0 : Int)).length = N := ⟨_, rfl⟩
  rw [hN] at hr2 e2
  rw [e2]
  have Hr2 := Lib.hid hr2
  clear hr2 hown2 hown2' hgr2 hb1 e2 hN hi hz0 hz1 hz2 hs1
  go_wp2_with fail
  go_loopw [7, 8, 9, 10, 12, 24] (fun wv kv pv nv qv iv wr => ∃ (k : Nat) (A1 : Option Addr) (n1 c1 : Nat) (W : List Int) (s : ByteArray), k ≤ n ∧ iv = .int .i64 k ∧ wv = .slice A1 n1 c1 ∧ Hid (RdI wr wr.heap.size A1 n1 c1 W) ∧ Hid (blL k W (l.drop k) = R ∧ txr s (l.drop k) = 0 ∧ W.length = s.size ∧ s.size ≤ 500) ∧ Below w.heap.size w wr) (fun _ _ _ _ _ i _ => n - (intOf i).toNat)
  case atStart => exact ⟨0, _, _, _, _, base, by omega, rfl, rfl, Hr2, Hst, hw2⟩
  case round =>
    obtain ⟨k, A1, n1, c1, W, s, hk, rfl, rfl, hrW, hst, hbwr⟩ := hrel
    by_cases hlt : k < n
    · have hkl : k < l.length := by have := H.out.1; omega
      obtain ⟨b4, o4, A4, n4, c4, rfl, hb4, d0, d1, d2, hrd⟩ := (H.out.below (hbwr.mono hB)).at_ k hlt
      have hdr : l.drop k = l[k] :: l.drop (k + 1) := List.drop_eq_getElem_cons hkl
      rw [hdr] at hst
      have hstep := Lib.hid (bl_step hst.out)
      obtain ⟨r, hr⟩ : ∃ r, r = l[k] := ⟨_, rfl⟩
      rw [← hr] at hst hstep d0 d1 hrd
      clear hr hdr hst
      obtain ⟨ra, rb, d⟩ := r
      simp only at d0 d1 d2 hrd hstep
      have hk0 : (0 : Int) ≤ (k : Int) := by omega
      have hkn : (k : Int) < (n : Int) := by omega
      have hgl : b4 < wr.heap.size := by have := hbwr.size; omega
      have hw3 := hbwr.alloc hbwr.size (.cells #[.int .i64 ra, .int .i64 rb, .slice A4 n4 c4] 30)
      have hrd' := (hrd.more (show B ≤ wr.heap.size by have := hbwr.size; omega)).stepA (.cells #[.int .i64 ra, .int .i64 rb, .slice A4 n4 c4] 30)
      have hrW' : RdI (wr.alloc (.cells #[.int .i64 ra, .int .i64 rb, .slice A4 n4 c4] 30)) (wr.alloc (.cells #[.int .i64 ra, .int .i64 rb, .slice A4 n4 c4] 30)).heap.size A1 n1 c1 W := (hrW.out.alloc (Nat.le_refl _) _).more (by simp)
      have Hrd := Lib.hid hrd'
      have HrW := Lib.hid hrW'
      have hck := hstep.out.1
      have HF := Lib.hid (chk_parts hck).2.2.2.2.2
      have hn4 : (n4 : Int) ≤ 1600 := by have := (chk_parts hck).1; have := hrd'.1; omega
      obtain ⟨X, hX⟩ : ∃ X, ap (fun _ => (k : Int) + 1) (units d) W = X := ⟨_, rfl⟩
      rw [hX] at hstep
      have HX : Hid (([] : List Int) ++ ap (fun _ => (k : Int) + 1) (units (d.drop 0)) W = X ∧ nI (units (d.drop 0)) = W.length) := Lib.hid ⟨hX, hstep.out.2.1⟩
      have hX5 : X.length ≤ 500 := hstep.out.2.2.1
      clear hrd hrd' hrW' hck hX
      go_wp2_with fail
      obtain ⟨W3, hW3⟩ : ∃ W3, wr.alloc (.cells #[.int .i64 ra, .int .i64 rb, .slice A4 n4 c4] 30) = W3 := ⟨_, rfl⟩
      rw [hW3] at Hrd HrW hw3 ⊢
      clear hW3 d0 d1 d2
      go_loopw [7, 10, 12, 32] (fun wv nv qv iv wr2 => ∃ (j : Nat) (A5 : Option Addr) (n5 c5 : Nat) (V acc : List Int), j ≤ n4 ∧ iv = .int .i64 j ∧ wv = .slice A5 n5 c5 ∧ Hid (RdI wr2 W3.heap.size A5 n5 c5 V) ∧ Hid (OwnI wr2 W3.heap.size nv acc) ∧ Hid (acc ++ ap (fun _ => (k : Int) + 1) (units (d.drop j)) V = X ∧ nI (units (d.drop j)) = V.length) ∧ Below W3.heap.size W3 wr2) (fun _ _ _ i _ => n4 - (intOf i).toNat)
      case atStart => exact ⟨0, _, _, _, _, [], by omega, rfl, rfl, HrW, Lib.hid (OwnI.nil _ _), HX, Below.refl _ _⟩
      case round =>
        obtain ⟨j, A5, n5, c5, V, acc, hj, rfl, rfl, hrV, hown, hap, hbw⟩ := hrel
        by_cases hlt2 : j < n4
        · have hjl : j < d.length := by have := Hrd.out.1; omega
          obtain ⟨b6, o6, rfl, hb6, p0, p1, p2⟩ := (Hrd.out.below hbw).at_ j hlt2
          have hbd := fit_bounds _ (HF.out d[j] (List.getElem_mem hjl))
          have hdr : d.drop j = d[j] :: d.drop (j + 1) := List.drop_eq_getElem_cons hjl
          rw [hdr] at hap
          obtain ⟨p, hp⟩ : ∃ p, p = d[j] := ⟨_, rfl⟩
          rw [← hp] at hbd hap p0 p1 p2
          clear hp hdr
          obtain ⟨kd, m, t⟩ := p
          simp only at hbd p0 p1 p2
          have hj0 : (0 : Int) ≤ (j : Int) := by omega
          have hjn : (j : Int) < (n4 : Int) := by omega
          have hws := hbw.size
          have hgl6 : b6 < wr.heap.size := by omega
          have hV5 := hrV.out.caps
          have hacc : acc.length ≤ 500 := by have := congrArg List.length hap.out.1; rw [List.length_append] at this; omega
          have hw7 := hbw.alloc hbw.size (.cells #[.int .i64 kd, .int .i64 m, .string t] 88)
          have hrV' := Lib.hid (hrV.out.alloc hws (.cells #[.int .i64 kd, .int .i64 m, .string t] 88))
          have hown' : Hid (OwnI (wr.alloc (.cells #[.int .i64 kd, .int .i64 m, .string t] 88)) W3.heap.size _ acc) := Lib.hid (World.ownsRow.alloc hown.out (.cells #[.int .i64 kd, .int .i64 m, .string t] 88))
          have HVl := Lib.hid hrV.out.1
          rcases hbd with ⟨rfl | rfl, h1, h2, rfl⟩ | ⟨rfl, rfl, h1, h2⟩
          · obtain ⟨z, rfl⟩ := Int.eq_ofNat_of_zero_le (show 0 ≤ m by omega)
            obtain ⟨q1, q2, q3⟩ := g_keep _ hap.out.1 hap.out.2
            have hV500 : z ≤ 500 := by omega
            have q3 : z ≤ n5 := by have := HVl.out; omega
            have Hq := Lib.hid (And.intro q1 q2)
            have hz0 : (0 : Int) ≤ (z : Int) := by omega
            have hzn : (z : Int) ≤ (n5 : Int) := by omega
            have hzc : (z : Int) ≤ (c5 : Int) := by omega
            have hnc : (n5 : Int) ≤ (c5 : Int) := by omega
            have htk := hrV'.out.take z (by omega)
            have Htk := Lib.hid htk
            have hal : acc.length + z ≤ 4000000 := by omega
            have hB7 : W3.heap.size ≤ (wr.alloc (.cells #[.int .i64 1, .int .i64 z, .string emp] 88)).heap.size := hw7.size
            have hcells := Blk.new wr 88 #[.int .i64 1, .int .i64 z, .string emp]
            have Hcells := Lib.hid hcells
            clear q1 q2 q3 hap hcells htk
            by_cases hcz : c5 = z
            · have hnz : n5 = z := by omega
              have hrs := hrV'.out.rest z (by omega) A5 (by rw [if_pos hcz])
              rw [hcz, hnz, Nat.sub_self] at hrs
              have Hrs := Lib.hid hrs
              rw [hcz] at Htk
              clear hrV' hrV hrs
              go_wp2_with (first | (at_builtin; refine wpList_app_intsG _ rfl (.tmp 51) (.tmp 55) rfl W3.heap.size _ acc rfl hown'.out A5 z z _ (V.take z) rfl Htk.out hal hB7 ?_; intro v8 w8 k1 k2 k3; have p81 := (Hcells.out.grown k3 (Ne.symm (own_blk_ne hown'.out Hcells.out (by decide)))).cell 1; have l81 := (Hcells.out.grown k3 (Ne.symm (own_blk_ne hown'.out Hcells.out (by decide)))).lt))
              have hw8 := hw7.trans k2
              have Hrs8 := Lib.hid (Hrs.out.below k2)
              have K1 := Lib.hid k1
              clear k1 k3 Hrs p0 p1 p2
              go_roundw
              case rel => exact ⟨j + 1, _, _, _, _, _, by omega, by go_num, rfl, Hrs8, K1, Hq, hw8⟩
              case measure => simp [intOf]; omega
            · have hrs := hrV'.out.rest z (by omega) _ rfl
              rw [if_neg hcz] at hrs
              have Hrs := Lib.hid hrs
              have hczf : (c5 = z) = False := by simp; exact hcz
              clear hrV' hrV hrs hcz
              go_wp2_with (first | (at_builtin; refine wpList_app_intsG _ rfl (.tmp 51) (.tmp 55) rfl W3.heap.size _ acc rfl hown'.out A5 z c5 _ (V.take z) rfl Htk.out hal hB7 ?_; intro v8 w8 k1 k2 k3; have p81 := (Hcells.out.grown k3 (Ne.symm (own_blk_ne hown'.out Hcells.out (by decide)))).cell 1; have l81 := (Hcells.out.grown k3 (Ne.symm (own_blk_ne hown'.out Hcells.out (by decide)))).lt))
              have hw8 := hw7.trans k2
              have Hrs8 := Lib.hid (Hrs.out.below k2)
              have K1 := Lib.hid k1
              clear k1 k3 Hrs p0 p1 p2
              go_roundw
              case rel => exact ⟨j + 1, _, _, _, _, _, by omega, by go_num, rfl, Hrs8, K1, Hq, hw8⟩
              case measure => simp [intOf]; omega
          · obtain ⟨z, rfl⟩ := Int.eq_ofNat_of_zero_le (show 0 ≤ m by omega)
            obtain ⟨q1, q2, q3⟩ := g_cut _ hap.out.1 hap.out.2
            have q3 : z ≤ n5 := by have := HVl.out; omega
            have Hq := Lib.hid (And.intro q1 q2)
            have hz0 : (0 : Int) ≤ (z : Int) := by omega
            have hzn : (z : Int) ≤ (n5 : Int) := by omega
            have hzc : (z : Int) ≤ (c5 : Int) := by omega
            have hnc : (n5 : Int) ≤ (c5 : Int) := by omega
            clear q1 q2 q3 hap
            by_cases hcz : c5 = z
            · have hnz : n5 = z := by omega
              have hrs := hrV'.out.rest z (by omega) A5 (by rw [if_pos hcz])
              rw [hcz, hnz, Nat.sub_self] at hrs
              have Hrs := Lib.hid hrs
              clear hrV' hrV hrs
              go_wp2_with fail
              go_roundw
              case rel => exact ⟨j + 1, _, _, _, _, _, by omega, by go_num, rfl, Hrs, hown', Hq, hw7⟩
              case measure => simp [intOf]; omega
            · have hrs := hrV'.out.rest z (by omega) _ rfl
              rw [if_neg hcz] at hrs
              have Hrs := Lib.hid hrs
              have hczf : (c5 = z) = False := by simp; exact hcz
              clear hrV' hrV hrs hcz
              go_wp2_with fail
              go_roundw
              case rel => exact ⟨j + 1, _, _, _, _, _, by omega, by go_num, rfl, Hrs, hown', Hq, hw7⟩
              case measure => simp [intOf]; omega
          · obtain ⟨q1, q2⟩ := g_put _ hap.out.1 hap.out.2
            have Hq := Lib.hid (And.intro q1 q2)
            have HV := Lib.hid hrV'.out
            clear q1 q2 hap hrV hrV'
            go_wp2_with fail
            obtain ⟨W7, hW7⟩ : ∃ W7, wr.alloc (.cells #[.int .i64 2, .int .i64 0, .string t] 88) = W7 := ⟨_, rfl⟩
            rw [hW7] at HV hown' hw7 ⊢
            clear hW7 p0 p1 p2
            go_loopw [10, 41] (fun nv iv wr2 => ∃ q : Nat, q ≤ t.size ∧ iv = .int .i64 q ∧ Hid (OwnI wr2 W3.heap.size nv (acc ++ List.replicate q ((k : Int) + 1))) ∧ Below W3.heap.size W7 wr2) (fun _ i _ => t.size - (intOf i).toNat)
            case atStart => exact ⟨0, by omega, rfl, by rw [List.replicate_zero, List.append_nil]; exact hown', Below.refl _ _⟩
            case round =>
              obtain ⟨q, hq, rfl, hown2, hbw2⟩ := hrel
              have hws2 := hbw2.size
              have hw7s := hw7.size
              by_cases hlt3 : q < t.size
              · have hq0 : (0 : Int) ≤ (q : Int) := by omega
                have hqt : (q : Int) < (t.size : Int) := by omega
                have hl2 : (acc ++ List.replicate q ((k : Int) + 1)).length ≤ 100000000 := by rw [List.length_append, List.length_replicate]; omega
                have hB8 : W3.heap.size ≤ wr.heap.size := by omega
                go_wp2_with (first | (at_builtin; go_loud (refine wpList_app_int _ rfl (.tmp 43) (.tmp 46) rfl W3.heap.size _ (acc ++ List.replicate q ((k : Int) + 1)) rfl hown2.out ((k : Int) + 1) 1 rfl hl2 hB8 ?_; intro v8 w8 k1 k2 k3 k4)))
                rw [List.append_assoc, ← List.replicate_succ'] at k1
                have K1 := Lib.hid k1
                clear k1 k3 k4
                go_wp2_with fail
                go_roundw
                case rel => exact ⟨q + 1, by omega, by go_num, K1, hbw2.trans k2⟩
                case measure => simp [intOf]; omega
              · have hqt : decide (q < t.size) = false := by simpa using hlt3
                obtain rfl : q = t.size := by omega
                have HV2 := Lib.hid (HV.out.below hbw2)
                have hw9 := hw7.trans hbw2
                go_wp2_with fail
                go_roundw
                case rel => exact ⟨j + 1, _, _, _, _, _, by omega, by go_num, rfl, HV2, hown2, Hq, hw9⟩
                case measure => simp [intOf]; omega
        · have hjn : decide (j < n4) = false := by simpa using hlt2
          obtain rfl : j = n4 := by omega
          have h1 := hap.out
          rw [List.drop_eq_nil_of_le (by have := Hrd.out.1; omega)] at h1
          have hV0 : V = [] := List.eq_nil_of_length_eq_zero (by rw [← h1.2]; rfl)
          subst hV0
          have hXa : acc = X := by have h2 := h1.1; simpa [units, ap] using h2
          subst hXa
          obtain ⟨A9, c9, hv9, hr9⟩ := hown.out.rd
          have hbf := hw3.trans (hbw.mono hw3.size)
          have Hr9 := Lib.hid hr9
          have Hn9 := Lib.hid hstep.out.2.2.2
          clear hown hap h1 hr9 hstep
          subst hv9
          go_wp2_with fail
          go_roundw
          case rel => exact ⟨k + 1, _, _, _, _, _, by omega, by go_num, rfl, Hr9, Hn9, hbf⟩
          case measure => simp [intOf]; omega
    · have hkn : decide (k < n) = false := by simpa using hlt
      have h1 := hst.out.1
      rw [List.drop_eq_nil_of_le (by have := H.out.1; omega)] at h1
      have hRW : W = R := h1
      subst hRW
      clear hst h1
      go_wp2_with fail
      go_ret2
      exact ⟨_, _, _, rfl, hrW.out, hbwr⟩
end Go.Proofs.Ytokngfinnieccaa
