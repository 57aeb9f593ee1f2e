/- A world of hands: what holds of all its seats and its archive (pure). A region that draws, whose ways come together behind it. A world of hands in memory. Contracts of world.Text, Revs. Contract of world.Calm. -/
import Derived.Test.YtokngfinnieccaaO21
import Derived.Test.YtokngfinnieccaaO3
import Derived.Test.YtokngfinnieccaaO15
import Derived.Test.YtokngfinnieccaaO19
namespace Go.Proofs.Ytokngfinnieccaa
open Go.ChangeShapes Go.WideShapes Go.RowKit
set_option linter.unusedVariables false
set_option linter.unusedSimpArgs false
set_option maxRecDepth 100000
set_option maxHeartbeats 4000000
theorem sum_setW (f : St → Nat) : ∀ (X : List St) (i : Nat) (x y : St), X[i]? = some x → ((X.set i y).map f).sum + f x = (X.map f).sum + f y
 | [], i, x, y, h => by simp at h
 | a :: X, 0, x, y, h => by
   simp only [List.getElem?_cons_zero, Option.some.injEq] at h
   subst h
   simp only [List.set_cons_zero, List.map_cons, List.sum_cons]
   omega
 | a :: X, i + 1, x, y, h => by
   have := sum_setW f X i x y (by simpa using h)
   simp only [List.set_cons_succ, List.map_cons, List.sum_cons]
   omega
theorem le_sumW (f : St → Nat) : ∀ (X : List St) (i : Nat) (x : St), X[i]? = some x → f x ≤ (X.map f).sum
 | [], i, x, h => by simp at h
 | a :: X, 0, x, h => by
   simp only [List.getElem?_cons_zero, Option.some.injEq] at h
   subst h
   simp only [List.map_cons, List.sum_cons]
   omega
 | a :: X, i + 1, x, h => by
   have := le_sumW f X i x (by simpa using h)
   simp only [List.map_cons, List.sum_cons]
   omega
def NumR (R : List Rv) : Prop := ∀ (R1 : List Rv) (r : Rv) (R2 : List Rv), R = R1 ++ r :: R2 → r.2.1 = (cntW r.1 R1 : Int) + 1
theorem NumR.nil : NumR [] := fun R1 r R2 h => by cases R1 <;> simp at h
theorem NumR.snoc {R : List Rv} (h : NumR R) (r : Rv) (hr : r.2.1 = (cntW r.1 R : Int) + 1) : NumR (R ++ [r]) := by
 intro R1 q R2 e
 rcases List.eq_nil_or_concat R2 with rfl | ⟨R3, z, rfl⟩
 · have e2 := List.append_inj' e (by simp)
   rw [← e2.1]
   injection e2.2 with e3
   rw [← e3]; exact hr
 · have e' : R ++ [r] = (R1 ++ q :: R3) ++ [z] := by rw [e]; simp
   exact h R1 q R3 (List.append_inj' e' (by simp)).1
structure WI (s : Sh) (X : List St) (put edits : Int) (e : Nat → Nat) : Prop where
 inv : ShI s none 1 0 tz
 old : s.old = false
 text : s.log.text = emp
 n1 : 1 ≤ X.length
 n4 : X.length ≤ 4
 seat : ∀ (i : Nat) x, X[i]? = some x → SI s.log.revs i x
 who : ∀ r ∈ s.log.revs, 0 ≤ r.1 ∧ r.1 < X.length
 num : NumR s.log.revs
 tab : ∀ i : Nat, i < 8 → (s.log.table.getD i (0, 0)).1 = cntW i s.log.revs
 byt : (putR s.log.revs : Int) + (X.map accB).sum ≤ put
 p500 : put ≤ 500
 cnt : (s.log.revs.length : Int) + (X.map accN).sum ≤ edits
 e64 : edits ≤ 64
 own : ∀ (i : Nat) x, X[i]? = some x → cntW i s.log.revs + accN x ≤ e i
section
variable {s : Sh} {X : List St} {put edits : Int} {e : Nat → Nat}
theorem WI.base (h : WI s X put edits e) : s.log.base = 0 := by rw [h.inv.log.eb]; rfl
theorem WI.len (h : WI s X put edits e) : s.log.revs.length ≤ 64 := h.inv.log.len
theorem WI.txr (h : WI s X put edits e) : Go.Proofs.Ytokngfinnieccaa.txr emp s.log.revs = 0 := by
 have := (txE_parts h.inv.log.txe).2.2
 rw [h.text] at this
 exact this
theorem WI.bud (h : WI s X put edits e) {i : Nat} {x : St} (hx : X[i]? = some x) : putR s.log.revs + accB x ≤ 500 := by
 have h1 := le_sumW accB X i x hx
 have h2 := h.byt
 have h3 := h.p500
 omega
def seat0 (i : Nat) : St := ⟨⟨i, 0, 0, emp, false, [], false, []⟩, [], 0⟩
theorem WI.new (n : Nat) (h1 : 1 ≤ n) (h4 : n ≤ 4) : WI shN ((List.range n).map seat0) 0 0 (fun _ => 0) := by
 have hs : ∀ (i : Nat) x, ((List.range n).map seat0)[i]? = some x → x = seat0 i ∧ i < n := by
  intro i x hx
  rw [List.getElem?_map] at hx
  by_cases hi : i < n
  · rw [List.getElem?_range hi] at hx
    simp only [Option.map_some, Option.some.injEq] at hx
    exact ⟨hx.symm, hi⟩
  · rw [List.getElem?_eq_none (by simpa using hi)] at hx
    cases hx
 have hz : ∀ f : St → Nat, (∀ i, f (seat0 i) = 0) → (((List.range n).map seat0).map f).sum = 0 := by
  intro f hf
  have e : (((List.range n).map seat0).map f) = (List.range n).map fun _ => 0 := by
   rw [List.map_map]
   exact List.map_congr_left fun i _ => hf i
  rw [e]
  generalize List.range n = L
  induction L with
  | nil => rfl
  | cons a L ih => simpa using ih
 refine ⟨ShI.new, rfl, rfl, by simpa using h1, by simpa using h4, ?_, ?_, NumR.nil, ?_, ?_, by decide, ?_, by decide, ?_⟩
 · intro i x hx
   obtain ⟨rfl, hi⟩ := hs i x hx
   refine ⟨rfl, rfl, Nat.zero_le _, ?_, ?_, .inl ⟨rfl, rfl, (by intro r hr; simp [seat0, shN, lgN] at hr), rfl⟩⟩
   · exact ⟨by simp [seat0], by simp [seat0]; omega, by simp [seat0], by simp [seat0], by simp [seat0], by simp [seat0], by simp [seat0, emp_size], fun _ => rfl, fun _ => rfl, fun x => by simp [seat0] at x, fun x => by simp [seat0] at x, fun x => by simp [seat0] at x⟩
   · exact ⟨fun _ => rfl, fun x => by simp [seat0] at x, fun x => by simp [seat0] at x, fun x => by simp [seat0] at x, fun x => by simp [seat0] at x⟩
 · intro r hr; cases hr
 · intro i hi
   show ((tb0 : Tb).getD i (0, 0)).1 = 0
   have : ∀ i, i < 8 → ((tb0 : Tb).getD i (0, 0)).1 = 0 := by decide
   exact this i hi
 · rw [hz accB (fun i => rfl)]; decide
 · rw [hz accN (fun i => rfl)]; decide
 · intro i x hx
   obtain ⟨rfl, hi⟩ := hs i x hx
   exact Nat.le_refl _
theorem WI.edit (h : WI s X put edits e) {i : Nat} {x : St} (hx : X[i]? = some x) {d : List Pt} (he : doE d x.c.text = 0) (h64 : edits < 64) (h500 : put + (nP (units d) : Int) ≤ 500) :
 WI s (X.set i (editS x d)) (put + (nP (units d) : Int)) (edits + 1) (fun k => if k = i then e k + 1 else e k) := by
 obtain ⟨a1, a2, a3, a4, a5⟩ := (h.seat i x hx).edit h.len he
 have hi : i < X.length := (List.getElem?_eq_some_iff.1 hx).1
 have sB := sum_setW accB X i x (editS x d) hx
 have sN := sum_setW accN X i x (editS x d) hx
 have hat : ∀ (k : Nat) y, (X.set i (editS x d))[k]? = some y → (k = i ∧ y = editS x d) ∨ (k ≠ i ∧ X[k]? = some y) := by
  intro k y hy
  by_cases hk : k = i
  · subst hk
    rw [List.getElem?_set_self hi] at hy
    exact .inl ⟨rfl, by injection hy with hy; exact hy.symm⟩
  · rw [List.getElem?_set_ne (Ne.symm hk)] at hy
    exact .inr ⟨hk, hy⟩
 refine ⟨h.inv, h.old, h.text, by rw [List.length_set]; exact h.n1, by rw [List.length_set]; exact h.n4, ?_, by rw [List.length_set]; exact h.who, h.num, h.tab, ?_, h500, ?_, by omega, ?_⟩
 · intro k y hy
   rcases hat k y hy with ⟨rfl, rfl⟩ | ⟨_, hy⟩
   · exact a1
   · exact h.seat k y hy
 · have := h.byt; omega
 · have := h.cnt; omega
 · intro k y hy
   rcases hat k y hy with ⟨rfl, rfl⟩ | ⟨hk, hy⟩
   · have := h.own k x hx
     rw [if_pos rfl]; omega
   · rw [if_neg hk]; exact h.own k y hy
theorem WI.up (h : WI s X put edits e) {i : Nat} {x : St} (hx : X[i]? = some x) (hu : x.up ≠ []) :
 ∃ (b : Int) (d : List Pt), x.up = [(b, (i : Int), x.c.seq, d)] ∧ subE s b i x.c.seq d = 0 ∧ (subS s none b i x.c.seq d).log.base = 0 ∧ WI (subS s none b i x.c.seq d) (X.set i { x with up := [] }) put edits e ∧ (subS s none b i x.c.seq d).log.revs.length = s.log.revs.length + 1 := by
 have hS := h.seat i x hx
 obtain ⟨b, d, a1, a2, a3, a4, a5, a6, a7, a8, a9⟩ := hS.up hu h.txr (h.bud hx)
 have hi : i < X.length := (List.getElem?_eq_some_iff.1 hx).1
 have hi8 : i < 8 := by have := h.n4; omega
 have hdc := do_chk a3
 have hsq := hS.seq_le
 have hlen := h.len
 have hcn := h.cnt
 have he64 := h.e64
 have hN1 := le_sumW accN X i x hx
 have hN2 : 1 ≤ accN x := by unfold accN; rw [a1]; simp
 have hb0 := h.base
 have htab := h.tab i hi8
 have hT : (subT s (i : Int)).1 = cntW i s.log.revs := by unfold subT; rw [Int.toNat_natCast]; exact htab
 obtain ⟨D, hD⟩ : ∃ D, mtL d (s.log.revs.drop b) = D := ⟨_, rfl⟩
 have hSI := a9 D hD
 rw [hD] at a5 a6
 have hdD := do_chk a5
 have htx : txt s.log.text s.log.revs b = txt emp s.log.revs b := by rw [h.text]
 have hnow := h.inv.log.now
 rw [h.text] at hnow
 have hnx : nextE s.log s.text.size ((i : Int), x.c.seq, D) = 0 := by
  unfold nextE
  have h1 : oneE ((i : Int), x.c.seq, D) = 0 := by
   unfold oneE
   rw [if_neg (by simp only; omega)]
   exact hdD.1
  rw [if_neg (by rw [h1]; simp), if_neg ?_, if_neg (by omega), ← hnow]
  · exact a5
  · simp only [Int.toNat_natCast]
    rw [htab]; omega
 have hE : subE s (b : Int) i x.c.seq d = 0 := by
  unfold subE
  rw [if_neg (by omega), if_neg (by rw [hdc.1]; simp), if_neg (by rw [hT]; omega), if_neg (by rw [hT]; omega)]
  have ht0 : thE s.log (b : Int) = 0 := by unfold thE; rw [if_neg (by omega), if_neg (by omega)]
  rw [if_neg (by rw [ht0]; simp), hb0, Int.sub_zero, Int.toNat_natCast, if_neg (by rw [htx]; omega), if_neg (by rw [a4]; simp), hD]
  exact hnx
 have hA : ¬ subAgain s i x.c.seq d := by
  intro hh
  have := hh.2.2.2
  rw [hT] at this
  omega
 have hSS : subS s none (b : Int) i x.c.seq d = addS s ((i : Int), x.c.seq, D) := by
  unfold subS
  rw [if_neg (by rintro (hh | hh); exact hh hE; exact hA hh), hb0, Int.sub_zero, Int.toNat_natCast, hD]
  unfold addG
  rw [if_pos hnx, if_neg (by decide)]
 refine ⟨(b : Int), d, a1, hE, ?_, ?_, ?_⟩
 · rw [hSS]; exact hb0
 · have sB := sum_setW accB X i x { x with up := [] } hx
   have sN := sum_setW accN X i x { x with up := [] } hx
   have eB : accB x = nP (units x.c.sent) + nP (units x.c.held) := by unfold accB; rw [a1]; rfl
   have eB' : accB { x with up := [] } = nP (units x.c.held) := by simp [accB, pendW]
   have eN : accN x = 1 + (if x.c.wait then 1 else 0) := by unfold accN; rw [a1]; rfl
   have eN' : accN { x with up := [] } = (if x.c.wait then 1 else 0) := by simp [accN]
   have hrev : (addS s ((i : Int), x.c.seq, D)).log.revs = s.log.revs ++ [((i : Int), x.c.seq, D)] := rfl
   rw [hSS]
   have hat : ∀ (k : Nat) y, (X.set i { x with up := [] })[k]? = some y → (k = i ∧ y = { x with up := [] }) ∨ (k ≠ i ∧ X[k]? = some y) := by
    intro k y hy
    by_cases hk : k = i
    · subst hk
      rw [List.getElem?_set_self hi] at hy
      exact .inl ⟨rfl, by injection hy with hy; exact hy.symm⟩
    · rw [List.getElem?_set_ne (Ne.symm hk)] at hy
      exact .inr ⟨hk, hy⟩
   have hinv : ShI (addS s ((i : Int), x.c.seq, D)) none 1 0 tz := by
    have := h.inv.add ((i : Int), x.c.seq, D)
    unfold addG at this
    rw [if_pos hnx, if_neg (by decide)] at this
    exact this
   have hcs : cntW (i : Int) (s.log.revs ++ [((i : Int), x.c.seq, D)]) = cntW i s.log.revs + 1 := by rw [cntW_app]; simp [cntW]
   refine ⟨hinv, h.old, h.text, by rw [List.length_set]; exact h.n1, by rw [List.length_set]; exact h.n4, ?_, ?_, ?_, ?_, ?_, h.p500, ?_, h.e64, ?_⟩
   · intro k y hy
     rw [hrev]
     rcases hat k y hy with ⟨rfl, rfl⟩ | ⟨hk, hy⟩
     · exact hSI
     · exact (h.seat k y hy).grow (by simp only; omega)
   · rw [List.length_set, hrev]
     intro r hr
     rcases List.mem_append.1 hr with hr | hr
     · exact h.who r hr
     · rw [List.mem_singleton.1 hr]; simp only; omega
   · rw [hrev]
     exact h.num.snoc _ a7
   · intro k hk
     rw [hrev]
     show ((s.log.table.set (i : Int).toNat (x.c.seq, s.log.base + (s.log.revs.length + 1 : Nat))).getD k (0, 0)).1 = _
     rw [Int.toNat_natCast, List.getD_eq_getElem?_getD]
     by_cases hki : k = i
     · subst hki
       rw [List.getElem?_set_self (by have := h.inv.log.hg.l8.2; omega), hcs]
       simp only [Option.getD_some]
       omega
     · rw [List.getElem?_set_ne (Ne.symm hki), ← List.getD_eq_getElem?_getD, h.tab k hk, cntW_app]
       simp only [cntW]
       rw [if_neg (by omega)]
       omega
   · rw [hrev, putR_app]
     simp only [putR]
     have := h.byt
     omega
   · rw [hrev, List.length_append, List.length_singleton]
     have := h.cnt
     omega
   · intro k y hy
     rw [hrev]
     rcases hat k y hy with ⟨rfl, rfl⟩ | ⟨hk, hy⟩
     · have := h.own k x hx
       rw [hcs]
       omega
     · have := h.own k y hy
       rw [cntW_app]
       simp only [cntW]
       rw [if_neg (by omega)]
       omega
 · rw [hSS]; simp [addS, addL]
theorem WI.down (h : WI s X put edits e) {i : Nat} {x : St} (hx : X[i]? = some x) (ht : x.told < s.log.revs.length) :
 WI s (X.set i (downS (s.log.revs[x.told]) x)) put edits e ∧ ((s.log.revs[x.told]).1 ≠ x.c.who → inE x.c (s.log.revs[x.told]).2.2 = 0) ∧
  ((s.log.revs[x.told]).1 = x.c.who → x.c.fly = true ∧ (s.log.revs[x.told]).2.1 = x.c.seq ∧ (s.log.revs[x.told]).2.2 = x.c.sent) ∧ (downS (s.log.revs[x.told]) x).told = x.told + 1 := by
 have hS := h.seat i x hx
 have hi : i < X.length := (List.getElem?_eq_some_iff.1 hx).1
 have hw := hS.who
 have key : SI s.log.revs i (downS (s.log.revs[x.told]) x) ∧ accB (downS (s.log.revs[x.told]) x) = accB x ∧ accN (downS (s.log.revs[x.told]) x) = accN x := by
  unfold downS
  split
  · rename_i hc
    obtain ⟨b1, b2, b3, b4, b5, b6⟩ := hS.own ht (hc.trans hw) h.txr h.len
    exact ⟨b4, b5, b6⟩
  · rename_i hc
    obtain ⟨b1, b2, b3, b4⟩ := hS.other ht (fun e => hc (e.trans hw.symm)) h.txr h.len (h.bud hx)
    exact ⟨b2, b3, b4⟩
 have sB := sum_setW accB X i x (downS (s.log.revs[x.told]) x) hx
 have sN := sum_setW accN X i x (downS (s.log.revs[x.told]) x) hx
 have hat : ∀ (k : Nat) y, (X.set i (downS (s.log.revs[x.told]) x))[k]? = some y → (k = i ∧ y = downS (s.log.revs[x.told]) x) ∨ (k ≠ i ∧ X[k]? = some y) := by
  intro k y hy
  by_cases hk : k = i
  · subst hk
    rw [List.getElem?_set_self hi] at hy
    exact .inl ⟨rfl, by injection hy with hy; exact hy.symm⟩
  · rw [List.getElem?_set_ne (Ne.symm hk)] at hy
    exact .inr ⟨hk, hy⟩
 refine ⟨⟨h.inv, h.old, h.text, by rw [List.length_set]; exact h.n1, by rw [List.length_set]; exact h.n4, ?_, by rw [List.length_set]; exact h.who, h.num, h.tab, ?_, h.p500, ?_, h.e64, ?_⟩, ?_, ?_, ?_⟩
 · intro k y hy
   rcases hat k y hy with ⟨rfl, rfl⟩ | ⟨_, hy⟩
   · exact key.1
   · exact h.seat k y hy
 · have := h.byt; omega
 · have := h.cnt; omega
 · intro k y hy
   rcases hat k y hy with ⟨rfl, rfl⟩ | ⟨hk, hy⟩
   · have := h.own k x hx
     rw [key.2.2]; exact this
   · exact h.own k y hy
 · intro hc
   exact (hS.other ht (fun e => hc (e.trans hw.symm)) h.txr h.len (h.bud hx)).1
 · intro hc
   obtain ⟨b1, b2, b3, b4, b5, b6⟩ := hS.own ht (hc.trans hw) h.txr h.len
   exact ⟨b1, by rw [b2], by rw [b2]⟩
 · unfold downS ownS sayS
   split
   · split <;> rfl
   · rfl
end
section
variable {P : Program} {ops : Array Oper} {Q Q' : Exit → Act → World → Prop} {md : Region.Mode} {S : World → Prop}
theorem oper_monoQ {o : Oper} {a : Act} {w : World} {K : Act → World → Prop} (h : ∀ e a w, e ≠ .normal → Q' e a w → Q e a w) (hh : o.wp P a w K Q') : o.wp P a w K Q := by
 unfold Oper.wp at *
 generalize (execOp a.eval o).run P w = r at *
 cases r with
 | ok n w' =>
   cases n <;> simp only [Oper.upon] at hh ⊢ <;>
    first
     | exact hh
     | exact Calls.mono hh (fun e w'' he => by
        cases e with
        | returned v => exact he
        | panicked c => exact h _ _ _ (by simp) he
        | outgrown => obtain ⟨x, y, z⟩ := he; exact ⟨x, y, h _ _ _ (by simp) z⟩)
 | halt x w' => cases x <;> simp only [Oper.upon] at hh ⊢ <;> first | exact hh | exact h _ _ _ (by simp) hh
theorem wpOp_monoQ {i : Nat} {a : Act} {w : World} {K : Act → World → Prop} (h : ∀ e a w, e ≠ .normal → Q' e a w → Q e a w) (hh : wpOp P ops Q' i K a w) : wpOp P ops Q i K a w := by
 unfold wpOp at *
 split
 · simpa [*] using hh
 · rename_i o ho
   simp only [ho] at hh
   split
   · rename_i hw
     simp only [hw, if_true] at hh
     refine hh.imp (oper_monoQ h) fun ⟨x, a, w, z⟩ => ⟨x, a, w, h _ _ _ (by simp) z⟩
   · rename_i hw; simp only [hw] at hh; exact hh
theorem wpAnyH_monoQ (h : ∀ e a w, e ≠ .normal → Q' e a w → Q e a w) (hn : ∀ a w, Q' .normal a w → Q .normal a w) :
 ∀ (fuel : Nat) (listed : Array Bool) (a : Act) (w : World), wpAnyH P md ops Q' S fuel listed a w → wpAnyH P md ops Q S fuel listed a w
 | 0, _, _, _, hh => ⟨hh.1, hn _ _ hh.2⟩
 | fuel + 1, _, _, _, hh => ⟨fun e => hn _ _ (hh.1 e), fun i hi => wpOp_monoQ h (wpOp_mono (fun _ _ z => ⟨z.1, wpAnyH_monoQ h hn fuel _ _ _ z.2⟩) (hh.2 i hi))⟩
def joinQ (Q : Exit → Act → World → Prop) (J : Act → World → Prop) : Exit → Act → World → Prop
 | .normal, a, w => J a w
 | e, a, w => Q e a w
theorem wp_region_join {id : Nat} {a : Act} {w : World} (J : Act → Act → World → Prop) (hm : P.follows .mixedOrders = true)
 (h : wpAnyH P .any ops (joinQ Q (J a)) S ops.size (Array.replicate ops.size false) a { w with drawn := w.drawn + 1 })
 (hJ : ∀ a' w', J a a' w' → Q .normal a' w') : (Code.region id ops true).wp P Q a w :=
 wp_region_held hm (wpAnyH_monoQ (fun e a w he hh => by cases e <;> first | exact absurd rfl he | exact hh) (fun a w hh => hJ a w hh) _ _ _ _ h)
theorem wpOp_enterE {i : Nat} (t : Nat) {o : Oper} {a : Act} {w : World} {K : Act → World → Prop} (hi : ops[i]? = some o) (hw : Region.wanted o (yielded ops a.tmps) = true) (hd : o.dst = some t) (f : FuncId) (vs : Array Value)
 (hx : (execOp a.eval o).run P w = .ok (.enter f vs) w) (R : Value → World → Prop) (hc : Calls P f vs w (fun e w' => ∃ v, e = .returned v ∧ R v w')) (h : ∀ v w', R v w' → K (a.put (some t) v) w') : wpOp P ops Q i K a w := by
 unfold wpOp
 simp only [hi, hw, if_true]
 refine .inl ?_
 unfold Oper.wp
 rw [hx]
 simp only [Oper.upon]
 refine Calls.mono hc ?_
 rintro e w' ⟨v, rfl, hr⟩
 rw [hd]
 exact h v w' hr
end
def stc (x : St) (a : Sl × Sl × Sl) : List Value := [.int .i64 x.c.who, .int .i64 x.c.rev, .int .i64 x.c.seq, .string x.c.text, .bool x.c.fly, .slice a.1.1 a.1.2.1 a.1.2.2, .bool x.c.wait, .slice a.2.1.1 a.2.1.2.1 a.2.1.2.2, .slice a.2.2.1 a.2.2.2.1 a.2.2.2.2, .int .i64 x.told]
theorem stc_len (x : St) (a : Sl × Sl × Sl) : (stc x a).length = 10 := rfl
def rowW : List St → List (Sl × Sl × Sl) → List Value
 | x :: X, a :: E => stc x a ++ rowW X E
 | _, _ => []
theorem rowW_len : ∀ (X : List St) (E : List (Sl × Sl × Sl)), E.length = X.length → (rowW X E).length = X.length * 10
 | [], [], _ => rfl
 | x :: X, a :: E, h => by
   have := rowW_len X E (by simpa using h)
   rw [rowW, List.length_append, stc_len, this, List.length_cons]
   omega
theorem rowW_at : ∀ (X : List St) (E : List (Sl × Sl × Sl)) (i : Nat) (x : St) (a : Sl × Sl × Sl), X[i]? = some x → E[i]? = some a → ∀ j, j < 10 → (rowW X E)[i * 10 + j]? = (stc x a)[j]?
 | [], _, i, x, a, h, _, j, hj => by simp at h
 | y :: X, [], i, x, a, _, h, j, hj => by simp at h
 | y :: X, b :: E, 0, x, a, h1, h2, j, hj => by
   simp only [List.getElem?_cons_zero, Option.some.injEq] at h1 h2
   subst h1 h2
   rw [rowW, Nat.zero_mul, Nat.zero_add, List.getElem?_append_left (by rw [stc_len]; exact hj)]
 | y :: X, b :: E, i + 1, x, a, h1, h2, j, hj => by
   have := rowW_at X E i x a (by simpa using h1) (by simpa using h2) j hj
   rw [rowW, List.getElem?_append_right (by rw [stc_len]; omega), stc_len, show (i + 1) * 10 + j - 10 = i * 10 + j by omega]
   exact this
theorem rowW_set : ∀ (X : List St) (E : List (Sl × Sl × Sl)) (i : Nat) (x : St) (a : Sl × Sl × Sl), E.length = X.length → i < X.length → ∃ P R, P.length = i * 10 ∧ (∃ y b, X[i]? = some y ∧ E[i]? = some b ∧ rowW X E = P ++ (stc y b ++ R)) ∧ rowW (X.set i x) (E.set i a) = P ++ (stc x a ++ R)
 | [], _, i, x, a, _, h => by simp at h
 | y :: X, [], i, x, a, h, _ => by simp at h
 | y :: X, b :: E, 0, x, a, _, _ => ⟨[], rowW X E, rfl, ⟨y, b, rfl, rfl, rfl⟩, rfl⟩
 | y :: X, b :: E, i + 1, x, a, h, hi => by
   obtain ⟨P, R, h1, ⟨z, c, h2, h3, h4⟩, h5⟩ := rowW_set X E i x a (by simpa using h) (by simpa using hi)
   refine ⟨stc y b ++ P, R, by rw [List.length_append, stc_len, h1]; omega, ⟨z, c, by simpa using h2, by simpa using h3, by rw [rowW, h4, List.append_assoc]⟩, ?_⟩
   rw [List.set_cons_succ, List.set_cons_succ, rowW, h5, List.append_assoc]
def DtW (w : World) (F : Nat → Prop) (s : Sl) (d : List Pt) : Prop := OwnP w 0 (.slice s.1 s.2.1 s.2.2) d ∧ ∀ k, (Value.slice s.1 s.2.1 s.2.2).ownBlock = some k → ¬ F k
def UpW (w : World) (F : Nat → Prop) (u : Sl) (l : List Mg) : Prop :=
 u.2.2 ≤ maxLen ∧ ((l = [] ∧ u.2.1 = 0 ∧ (0 < u.2.2 → ∃ g o cur, u.1 = some ⟨g, o, none⟩ ∧ ¬ F g ∧ Blk w g 82 cur ∧ o + u.2.2 * 4 ≤ cur.size)) ∨
  (∃ (m : Mg) (d : Sl) (g o : Nat) (cur : Array Value), l = [m] ∧ u.1 = some ⟨g, o, none⟩ ∧ u.2.1 = 1 ∧ 1 ≤ u.2.2 ∧ ¬ F g ∧ Blk w g 82 cur ∧ o + u.2.2 * 4 ≤ cur.size ∧
     cur[o]? = some (.int .i64 m.1) ∧ cur[o + 1]? = some (.int .i64 m.2.1) ∧ cur[o + 2]? = some (.int .i64 m.2.2.1) ∧ cur[o + 3]? = some (.slice d.1 d.2.1 d.2.2) ∧ DtW w F d m.2.2.2))
def upB (u : Sl) : Option Nat := if u.2.2 = 0 then none else (Value.slice u.1 u.2.1 u.2.2).ownBlock
structure SeatM (w : World) (F : Nat → Prop) (x : St) (a : Sl × Sl × Sl) : Prop where
 s : DtW w F a.1 x.c.sent
 h : DtW w F a.2.1 x.c.held
 u : UpW w F a.2.2 x.up
def wdc (sq gs n cap : Nat) (put edits : Int) : Array Value := #[.pointer (some ⟨sq, 0, none⟩), .slice (some ⟨gs, 0, none⟩) n cap, .int .i64 put, .int .i64 edits]
structure WdM (w : World) (F : Nat → Prop) (q sq gs cap : Nat) (E : List (Sl × Sl × Sl)) (sp : List Value) (s : Sh) (X : List St) (put edits : Int) : Prop where
 fq : ¬ F q
 fg : ¬ F gs
 kq : Blk w q 115 (wdc sq gs X.length cap put edits)
 kg : Blk w gs 118 (rowW X E ++ sp).toArray
 c1 : X.length ≤ cap
 c2 : cap ≤ maxLen
 le : E.length = X.length
 ss : ∀ (i : Nat) x a, X[i]? = some x → E[i]? = some a → SeatM w F x a
 ub : ∀ (i j : Nat) a b, E[i]? = some a → E[j]? = some b → i ≠ j → ∀ g, upB a.2.2 = some g → upB b.2.2 ≠ some g
 sh : ShG w F sq s none 1 0 tz
section
variable {w w' : World} {F G S : Nat → Prop}
theorem DtW.only {s : Sl} {d : List Pt} (h : DtW w F s d) (ho : Only w w' S) (hS : ∀ k, S k → F k ∨ ∃ cs t, Blk w k t cs ∧ t ≠ 88) : DtW w' F s d := by
 refine ⟨own_only h.1 ho (fun k hk hs => ?_), h.2⟩
 rcases hS k hs with hf | ⟨cs, t, hb, ht⟩
 · exact h.2 k hk hf
 · exact own_blk_ne h.1 hb (Ne.symm ht) hk
theorem DtW.below {s : Sl} {d : List Pt} (h : DtW w F s d) (hb : Below w.heap.size w w') : DtW w' F s d := ⟨own_below h.1 hb, h.2⟩
theorem DtW.lt {s : Sl} {d : List Pt} (h : DtW w F s d) : ∀ k, (Value.slice s.1 s.2.1 s.2.2).ownBlock = some k → k < w.heap.size := own_lt h.1
theorem DtW.re {s : Sl} {d : List Pt} (h : DtW w F s d) (hG : ∀ k, k < w.heap.size → G k → F k) : DtW w G s d := ⟨h.1, fun k hk hg => h.2 k hk (hG k (h.lt k hk) hg)⟩
theorem UpW.below {u : Sl} {l : List Mg} (h : UpW w F u l) (hb : Below w.heap.size w w') : UpW w' F u l := by
 refine ⟨h.1, ?_⟩
 rcases h.2 with ⟨a1, a2, a4⟩ | ⟨m, d, g, o, cur, b1, b2, b3, b4, b6, b7, b8, b9, b10, b11, b12, b13⟩
 · refine .inl ⟨a1, a2, fun hp => ?_⟩
   obtain ⟨g, o, cur, c1, c2, c3, c4⟩ := a4 hp
   exact ⟨g, o, cur, c1, c2, c3.below hb c3.lt, c4⟩
 · exact .inr ⟨m, d, g, o, cur, b1, b2, b3, b4, b6, b7.below hb b7.lt, b8, b9, b10, b11, b12, b13.below hb⟩
theorem UpW.re {u : Sl} {l : List Mg} (h : UpW w F u l) (hG : ∀ k, k < w.heap.size → G k → F k) : UpW w G u l := by
 refine ⟨h.1, ?_⟩
 rcases h.2 with ⟨a1, a2, a4⟩ | ⟨m, d, g, o, cur, b1, b2, b3, b4, b6, b7, b8, b9, b10, b11, b12, b13⟩
 · refine .inl ⟨a1, a2, fun hp => ?_⟩
   obtain ⟨g, o, cur, c1, c2, c3, c4⟩ := a4 hp
   exact ⟨g, o, cur, c1, fun hg => c2 (hG g c3.lt hg), c3, c4⟩
 · exact .inr ⟨m, d, g, o, cur, b1, b2, b3, b4, fun hg => b6 (hG g b7.lt hg), b7, b8, b9, b10, b11, b12, b13.re hG⟩
theorem UpW.only {u : Sl} {l : List Mg} (h : UpW w F u l) (ho : Only w w' S) (hS : ∀ k, S k → F k ∨ ∃ cs t, Blk w k t cs ∧ t ≠ 88) (hu : ∀ k, upB u = some k → ¬ S k) : UpW w' F u l := by
 have hub : ∀ g o, u.1 = some ⟨g, o, none⟩ → 0 < u.2.2 → ¬ S g := fun g o e hp => hu g (by
  unfold upB
  rw [if_neg (by omega), e]
  rfl)
 refine ⟨h.1, ?_⟩
 rcases h.2 with ⟨a1, a2, a4⟩ | ⟨m, d, g, o, cur, b1, b2, b3, b4, b6, b7, b8, b9, b10, b11, b12, b13⟩
 · refine .inl ⟨a1, a2, fun hp => ?_⟩
   obtain ⟨g, o, cur, c1, c2, c3, c4⟩ := a4 hp
   exact ⟨g, o, cur, c1, c2, c3.only ho (hub g o c1 hp), c4⟩
 · exact .inr ⟨m, d, g, o, cur, b1, b2, b3, b4, b6, b7.only ho (hub g o b2 (by omega)), b8, b9, b10, b11, b12, b13.only ho hS⟩
theorem upB_blk {u : Sl} {l : List Mg} (h : UpW w F u l) {k : Nat} (hk : upB u = some k) : ¬ F k ∧ ∃ cur, Blk w k 82 cur := by
 unfold upB at hk
 split at hk
 · cases hk
 · rename_i hp
   rcases h.2 with ⟨a1, a2, a4⟩ | ⟨m, d, g, o, cur, b1, b2, b3, b4, b6, b7, _⟩
   · obtain ⟨g, o, cur, c1, c2, c3, c4⟩ := a4 (by omega)
     rw [c1] at hk
     injection hk with hk
     subst hk
     exact ⟨c2, cur, c3⟩
   · rw [b2] at hk
     injection hk with hk
     subst hk
     exact ⟨b6, cur, b7⟩
end
section
variable {w w' : World} {F S : Nat → Prop} {q sq gs cap : Nat} {E : List (Sl × Sl × Sl)} {sp : List Value} {s : Sh} {X : List St} {put edits : Int}
theorem WdM.below (h : WdM w F q sq gs cap E sp s X put edits) (hb : Below w.heap.size w w') : WdM w' F q sq gs cap E sp s X put edits :=
 ⟨h.fq, h.fg, h.kq.below hb h.kq.lt, h.kg.below hb h.kg.lt, h.c1, h.c2, h.le, fun i x a hx ha => ⟨(h.ss i x a hx ha).s.below hb, (h.ss i x a hx ha).h.below hb, (h.ss i x a hx ha).u.below hb⟩, h.ub, h.sh.below hb⟩
theorem WdM.flt (h : WdM w F q sq gs cap E sp s X put edits) : ∀ k, F k → k < w.heap.size := h.sh.mem.lt
theorem WdM.at_ (h : WdM w F q sq gs cap E sp s X put edits) {i : Nat} {x : St} (hx : X[i]? = some x) : ∃ a, E[i]? = some a ∧ SeatM w F x a ∧ ∀ j, j < 10 → w.cell? ⟨gs, i * 10 + j, none⟩ = (stc x a)[j]? := by
 have hi : i < X.length := (List.getElem?_eq_some_iff.1 hx).1
 obtain ⟨a, ha⟩ : ∃ a, E[i]? = some a := ⟨E[i]'(by rw [h.le]; exact hi), List.getElem?_eq_getElem _⟩
 refine ⟨a, ha, h.ss i x a hx ha, fun j hj => ?_⟩
 rw [h.kg.cell, List.getElem?_toArray, List.getElem?_append_left (by rw [rowW_len X E h.le]; omega)]
 exact rowW_at X E i x a hx ha j hj
theorem WdM.box (h : WdM w F q sq gs cap E sp s X put edits) (ho : Only w w' (fun k => k = q)) {put' edits' : Int} (hk : Blk w' q 115 (wdc sq gs X.length cap put' edits')) : WdM w' F q sq gs cap E sp s X put' edits' := by
 have hS : ∀ k, k = q → F k ∨ ∃ cs t, Blk w k t cs ∧ t ≠ 88 := fun k hk => .inr ⟨_, _, hk ▸ h.kq, by decide⟩
 refine ⟨h.fq, h.fg, hk, h.kg.only ho (fun e => Blk.ne_ h.kg h.kq (by decide) e), h.c1, h.c2, h.le, fun i x a hx ha => ?_, h.ub, ⟨h.sh.mem.only ho (fun k hf e => h.fq (e ▸ hf)), h.sh.inv⟩⟩
 have hs := h.ss i x a hx ha
 refine ⟨hs.s.only ho hS, hs.h.only ho hS, hs.u.only ho hS (fun k hk e => ?_)⟩
 obtain ⟨_, cur, hc⟩ := upB_blk hs.u hk
 exact Blk.ne_ hc h.kq (by decide) e
theorem WdM.seat (h : WdM w F q sq gs cap E sp s X put edits) {i : Nat} {x x0 : St} {a a0 : Sl × Sl × Sl} (hx0 : X[i]? = some x0) (ha0 : E[i]? = some a0) (ho : Only w w' (fun k => k = gs ∨ upB a0.2.2 = some k))
 (hk : Blk w' gs 118 (rowW (X.set i x) (E.set i a) ++ sp).toArray) (hs : SeatM w' F x a) (hu : ∀ g, upB a.2.2 = some g → upB a0.2.2 = some g ∨ w.heap.size ≤ g) : WdM w' F q sq gs cap (E.set i a) sp s (X.set i x) put edits := by
 have hi : i < X.length := (List.getElem?_eq_some_iff.1 hx0).1
 have hs0 := h.ss i x0 a0 hx0 ha0
 have hS : ∀ k, (k = gs ∨ upB a0.2.2 = some k) → F k ∨ ∃ cs t, Blk w k t cs ∧ t ≠ 88 := by
  rintro k (hk | hk)
  · exact .inr ⟨_, _, hk ▸ h.kg, by decide⟩
  · obtain ⟨_, cur, hc⟩ := upB_blk hs0.u hk
    exact .inr ⟨_, _, hc, by decide⟩
 have hie : i < E.length := by rw [h.le]; exact hi
 have hF : ∀ k, F k → ¬ (k = gs ∨ upB a0.2.2 = some k) := by
  rintro k hf (e | e)
  · exact h.fg (e ▸ hf)
  · exact (upB_blk hs0.u e).1 hf
 have hat : ∀ (k : Nat) b, (E.set i a)[k]? = some b → (k = i ∧ b = a) ∨ (k ≠ i ∧ E[k]? = some b) := by
  intro k b hb
  by_cases hk : k = i
  · subst hk
    rw [List.getElem?_set_self hie] at hb
    exact .inl ⟨rfl, by injection hb with hb; exact hb.symm⟩
  · rw [List.getElem?_set_ne (Ne.symm hk)] at hb
    exact .inr ⟨hk, hb⟩
 have hux : ∀ j b, E[j]? = some b → j ≠ i → ∀ g, upB a.2.2 = some g → upB b.2.2 ≠ some g := by
  intro j b hb hj g hg e
  rcases hu g hg with h1 | h1
  · exact h.ub i j a0 b ha0 hb (Ne.symm hj) g h1 e
  · have hjX : j < X.length := by rw [← h.le]; exact (List.getElem?_eq_some_iff.1 hb).1
    obtain ⟨_, cur, hc⟩ := upB_blk (h.ss j X[j] b (List.getElem?_eq_getElem hjX) hb).u e
    have := hc.lt
    omega
 refine ⟨h.fq, h.fg, ?_, hk, by rw [List.length_set]; exact h.c1, h.c2, by rw [List.length_set, List.length_set]; exact h.le, ?_, ?_, ⟨h.sh.mem.only ho hF, h.sh.inv⟩⟩
 · rw [List.length_set]
   refine h.kq.only ho ?_
   rintro (e | e)
   · exact Blk.ne_ h.kq h.kg (by decide) e
   · obtain ⟨_, cur, hc⟩ := upB_blk hs0.u e
     exact Blk.ne_ h.kq hc (by decide) rfl
 · intro k y b hy hb
   rcases hat k b hb with ⟨rfl, rfl⟩ | ⟨hne, hb⟩
   · rw [List.getElem?_set_self hi] at hy
     injection hy with hy
     subst hy
     exact hs
   · rw [List.getElem?_set_ne (Ne.symm hne)] at hy
     have hs := h.ss k y b hy hb
     refine ⟨hs.s.only ho hS, hs.h.only ho hS, hs.u.only ho hS (fun z hz e => ?_)⟩
     rcases e with e | e
     · obtain ⟨_, cur, hc⟩ := upB_blk hs.u hz
       exact Blk.ne_ hc h.kg (by decide) e
     · exact h.ub k i b a0 hb ha0 hne z hz e
 · intro k j b c hb hc hne g hg
   rcases hat k b hb with ⟨rfl, rfl⟩ | ⟨hk', hb'⟩ <;> rcases hat j c hc with ⟨rfl, rfl⟩ | ⟨hj', hc'⟩
   · exact absurd rfl hne
   · exact hux j c hc' hj' g hg
   · intro e
     exact hux k b hb' hk' g e hg
   · exact h.ub k j b c hb' hc' hne g hg
theorem set_mid (P M R sp : List Value) (j : Nat) (v : Value) (hj : j < M.length) : (P ++ (M ++ R) ++ sp).toArray.setIfInBounds (P.length + j) v = (P ++ (M.set j v ++ R) ++ sp).toArray := by
 rw [List.setIfInBounds_toArray]
 congr 1
 rw [List.append_assoc, List.append_assoc, List.append_assoc, List.append_assoc, List.set_append_right _ _ (Nat.le_add_right _ _), Nat.add_sub_cancel_left, List.set_append_left _ _ hj]
theorem rowW_cell {i : Nat} {x x' : St} {a a' : Sl × Sl × Sl} (hx : X[i]? = some x) (ha : E[i]? = some a) (hl : E.length = X.length) (j : Nat) (v : Value) (hj : j < 10) (hv : (stc x a).set j v = stc x' a') :
 (rowW X E ++ sp).toArray.setIfInBounds (i * 10 + j) v = (rowW (X.set i x') (E.set i a') ++ sp).toArray := by
 have hi : i < X.length := (List.getElem?_eq_some_iff.1 hx).1
 obtain ⟨P, R, h1, ⟨y, b, h2, h3, h4⟩, h5⟩ := rowW_set X E i x' a' hl hi
 rw [hx] at h2
 rw [ha] at h3
 injection h2 with h2
 injection h3 with h3
 subst h2 h3
 have hlen : (stc x a).length = 10 := stc_len x a
 obtain ⟨M, hM⟩ : ∃ M, stc x a = M := ⟨_, rfl⟩
 rw [hM] at h4 hv hlen
 rw [h4, h5, ← hv, ← h1]
 exact set_mid P M R sp j v (by rw [hlen]; exact hj)
theorem rowW_client {i : Nat} {x : St} {a : Sl × Sl × Sl} (hx : X[i]? = some x) (ha : E[i]? = some a) (hl : E.length = X.length) (c : Cl) (s1 h1 : Sl) :
 setL (rowW X E ++ sp).toArray (i * 10) (clc c s1 h1).toList = (rowW (X.set i { x with c := c }) (E.set i (s1, h1, a.2.2)) ++ sp).toArray := by
 have hi : i < X.length := (List.getElem?_eq_some_iff.1 hx).1
 obtain ⟨P, R, e1, ⟨y, b, e2, e3, e4⟩, e5⟩ := rowW_set X E i { x with c := c } (s1, h1, a.2.2) hl hi
 rw [hx] at e2
 rw [ha] at e3
 have e2 := Option.some.inj e2
 have e3 := Option.some.inj e3
 rw [← e2, ← e3] at e4
 have hst : stc x a = (clc x.c a.1 a.2.1).toList ++ [.slice a.2.2.1 a.2.2.2.1 a.2.2.2.2, .int .i64 x.told] := rfl
 have hst' : stc { x with c := c } (s1, h1, a.2.2) = (clc c s1 h1).toList ++ [.slice a.2.2.1 a.2.2.2.1 a.2.2.2.2, .int .i64 x.told] := rfl
 have hl1 : (clc x.c a.1 a.2.1).toList.length = 8 := rfl
 have hl2 : (clc c s1 h1).toList.length = 8 := rfl
 rw [hst] at e4
 rw [hst'] at e5
 obtain ⟨M, hM⟩ : ∃ M, (clc x.c a.1 a.2.1).toList = M := ⟨_, rfl⟩
 obtain ⟨C, hC⟩ : ∃ C, (clc c s1 h1).toList = C := ⟨_, rfl⟩
 obtain ⟨U, hU⟩ : ∃ U : List Value, [.slice a.2.2.1 a.2.2.2.1 a.2.2.2.2, .int .i64 x.told] = U := ⟨_, rfl⟩
 rw [hM, hU] at e4
 rw [hC, hU] at e5
 rw [hM] at hl1
 rw [hC] at hl2 ⊢
 rw [e4, e5, ← e1]
 have key := setL_mid C M P (U ++ R ++ sp) (by rw [hl1, hl2])
 rw [show P ++ (M ++ U ++ R) ++ sp = P ++ (M ++ (U ++ R ++ sp)) by simp only [List.append_assoc], show P ++ (C ++ U ++ R) ++ sp = P ++ (C ++ (U ++ R ++ sp)) by simp only [List.append_assoc]]
 exact key
theorem WdM.shop (h : WdM w F q sq gs cap E sp s X put edits) (ho : Only w w' F) {s' : Sh} (hm : ShG w' (grow F w w') sq s' none 1 0 tz) : WdM w' (grow F w w') q sq gs cap E sp s' X put edits := by
 have hlt := h.flt
 have hre : ∀ k, k < w.heap.size → grow F w w' k → F k := by
  rintro k hk (hf | hf)
  · exact hf
  · omega
 have hS : ∀ k, F k → F k ∨ ∃ cs t, Blk w k t cs ∧ t ≠ 88 := fun k hk => .inl hk
 have hng : ∀ k, k < w.heap.size → ¬ F k → ¬ grow F w w' k := fun k hk hf hg => hf (hre k hk hg)
 refine ⟨hng q h.kq.lt h.fq, hng gs h.kg.lt h.fg, h.kq.only ho h.fq, h.kg.only ho h.fg, h.c1, h.c2, h.le, fun i x a hx ha => ?_, h.ub, hm⟩
 have hs := h.ss i x a hx ha
 have d1 := (hs.s.re hre).only (w' := w') (S := F) ho (fun k hk => .inl (.inl hk))
 have d2 := (hs.h.re hre).only (w' := w') (S := F) ho (fun k hk => .inl (.inl hk))
 refine ⟨d1, d2, ?_⟩
 exact (hs.u.re hre).only ho (fun k hk => .inl (.inl hk)) (fun k hk hf => (upB_blk hs.u hk).1 hf)
end
def WdP (w : World) (P : Nat → Prop) (q : Nat) (s : Sh) (X : List St) (put edits : Int) : Prop :=
 ∃ (F : Nat → Prop) (sq gs cap : Nat) (E : List (Sl × Sl × Sl)) (sp : List Value), WdM w F q sq gs cap E sp s X put edits ∧ (∀ k, F k → P k) ∧ P q ∧ P gs ∧ ∀ (i : Nat) a, E[i]? = some a → ∀ g, upB a.2.2 = some g → P g
section
variable {w w' : World} {P P' : Nat → Prop} {q : Nat} {s : Sh} {X : List St} {put edits : Int}
theorem WdP.mono (h : WdP w P q s X put edits) (hP : ∀ k, k < w.heap.size → P k → P' k) : WdP w P' q s X put edits := by
 obtain ⟨F, sq, gs, cap, E, sp, h1, h2, h3, h4, h5⟩ := h
 refine ⟨F, sq, gs, cap, E, sp, h1, fun k hk => hP k (h1.flt k hk) (h2 k hk), hP _ h1.kq.lt h3, hP _ h1.kg.lt h4, fun i a ha g hg => ?_⟩
 have hi : i < X.length := by rw [← h1.le]; exact (List.getElem?_eq_some_iff.1 ha).1
 obtain ⟨_, cur, hc⟩ := upB_blk (h1.ss i X[i] a (List.getElem?_eq_getElem hi) ha).u hg
 exact hP g hc.lt (h5 i a ha g hg)
def RdQ (w : World) (P : Nat → Prop) (A : Option Addr) (n c : Nat) (d : List Pt) : Prop := RdP w w.heap.size A n c d ∧ ∀ ad, A = some ad → 0 < n → ¬ P ad.block
theorem RdQ.only {A : Option Addr} {n c : Nat} {d : List Pt} (h : RdQ w P A n c d) (ho : Only w w' P) : RdQ w' P A n c d := by
 refine ⟨⟨h.1.1, ⟨h.1.2.1.1, h.1.2.1.2.1, h.1.2.1.2.2.1, fun hn => ?_⟩, h.1.2.2⟩, h.2⟩
 obtain ⟨b, o, e, hb, hc⟩ := h.1.2.1.2.2.2 hn
 have hp := h.2 _ e hn
 refine ⟨b, o, e, Nat.lt_of_lt_of_le hb ho.2.2.2.1, fun j u hu => ?_⟩
 exact (World.cell?_of_block (ho.2.2.2.2 b hb hp)).trans (hc j u hu)
theorem RdQ.below {A : Option Addr} {n c : Nat} {d : List Pt} (h : RdQ w P A n c d) (hb : Below w.heap.size w w') : RdQ w' P A n c d := ⟨h.1.step hb, h.2⟩
theorem RdQ.of {B : Nat} {A : Option Addr} {n c : Nat} {d : List Pt} (h : RdP w B A n c d) (hB : B ≤ w.heap.size) (hP : ∀ k, P k → B ≤ k) : RdQ w P A n c d := ⟨h.more hB, fun ad e hn hp => by
 obtain ⟨b, o, e', hb, hc⟩ := h.2.1.2.2.2 hn
 rw [e] at e'
 injection e' with e'
 subst e'
 exact absurd (hP _ hp) (Nat.not_le.2 hb)⟩
end
theorem wrevs_any (w : World) (F : Nat → Prop) (q sq gs cap : Nat) (E : List (Sl × Sl × Sl)) (sp : List Value) (s : Sh) (X : List St) (put edits : Int) (h : WdM w F q sq gs cap E sp s X put edits) (hb : s.log.base = 0) :
 Calls Try.prog 29 #[.pointer (some ⟨q, 0, none⟩)] w fun e w' => ∃ (sl' : Sl) (ss : List Sl), e = .returned (.slice sl'.1 sl'.2.1 sl'.2.2) ∧ OwnV w' w.heap.size (.slice sl'.1 sl'.2.1 sl'.2.2) ss s.log.revs ∧ Below w.heap.size w w' := by
 obtain ⟨N, hN⟩ : ∃ N, X.length = N := ⟨_, rfl⟩
 have hkq := h.kq
 have hc1 := h.c1
 have hc2 := h.c2
 rw [hN] at hkq hc1
 have hcp : (N : Int) ≤ (cap : Int) := by omega
 have hcm : (cap : Int) ≤ 9223372036854775807 := by simp only [maxLen] at hc2; omega
 have hN0 : (0 : Int) ≤ (N : Int) := by omega
 have q0 : w.cell? ⟨q, 0, none⟩ = some (.pointer (some ⟨sq, 0, none⟩)) := hkq.cell 0
 have q1 : w.cell? ⟨q, 1, none⟩ = some (.slice (some ⟨gs, 0, none⟩) N cap) := hkq.cell 1
 have lq := hkq.lt
 have lg := h.kg.lt
 have hc_ := srevs_B sq s none 0 1 0 0 w (ShB.of h.sh (fun _ _ => Nat.zero_le _)) (by rw [hb]; rfl) (Nat.zero_le _)
 rw [List.drop_zero] at hc_
 have Hc_ := Lib.hid hc_
 clear hc_ hkq hc1 hc2 h hN q1 lg
 go_enter Try.func29, Try.ntmps29
 go_wp2_with fail
 refine Hc_.out.mono ?_
 rintro e w1 ⟨⟨r1, r2, r3⟩, ss, rfl, ho, hb⟩
 have HO := Lib.hid ho
 have HB := Lib.hid hb
 clear Hc_ ho hb
 go_wp2_with fail
 go_ret
 exact ⟨(r1, r2, r3), ss, rfl, HO.out, HB.out⟩

end Go.Proofs.Ytokngfinnieccaa
