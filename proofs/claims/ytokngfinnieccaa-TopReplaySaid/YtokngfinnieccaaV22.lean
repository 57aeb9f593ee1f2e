/- The archive with its moves: what always holds of it, and what Add, Keep, Step, Sync make of that (pure). The archive with its moves: Add, Keep, Step, Sync keep what always holds (pure). Step, Keep of an archive in memory, whatever its state. Contracts of shop.Sync, shop.Safe, shop.Last. spoil, that more than one may be spoilt; Clone of a list of any size. Two archives beside each other in memory, and blocks that are neither's. -/
import Derived.Test.YtokngfinnieccaaV21
import Derived.Test.YtokngfinnieccaaV8
namespace Go.Proofs.Ytokngfinnieccaa
open Go.ChangeShapes Go.WideShapes Go.RowKit
set_option linter.unusedVariables false
set_option linter.unusedSimpArgs false
set_option maxRecDepth 100000
set_option maxHeartbeats 4000000
structure LogI (l : Lg) (tx : ByteArray) (g b : Nat) (tN : List (Nat × Nat)) : Prop where
 hd : HdI g b tN l.text
 eg : l.gen = (g : Int)
 eb : l.base = (b : Int)
 ef : l.first = tbN tN
 ok : okRs (L0 g b tN l.text) l.text l.revs
 tb : l.table = tblF b (tbN tN) l.revs
 wh : l.whole = true
 now : txt l.text l.revs l.revs.length = tx
theorem L0_len (g b : Nat) (t : List (Nat × Nat)) (tx : ByteArray) : (L0 g b t tx).revs.length = 0 := rfl
theorem LogI.len {l : Lg} {tx : ByteArray} {g b : Nat} {tN : List (Nat × Nat)} (h : LogI l tx g b tN) : l.revs.length ≤ 64 := by
 rcases okRs_len _ _ _ h.ok with e | e
 · rw [e]; exact Nat.zero_le _
 · rw [L0_len] at e; omega
theorem LogI.num {l : Lg} {tx : ByteArray} {g b : Nat} {tN : List (Nat × Nat)} (h : LogI l tx g b tN) : (b : Int) + (l.revs.length : Int) ≤ 2147483647 := by
 rcases okRs_base _ _ _ h.ok with e | e
 · rw [e]; have := h.hd.b; simp; omega
 · have : (L0 g b tN l.text).base = (b : Int) := rfl
   rw [this, L0_len] at e
   omega
theorem LogI.one {l : Lg} {tx : ByteArray} {g b : Nat} {tN : List (Nat × Nat)} (h : LogI l tx g b tN) : ∀ r ∈ l.revs, oneE r = 0 := okRs_one _ _ _ h.ok
theorem LogI.txe {l : Lg} {tx : ByteArray} {g b : Nat} {tN : List (Nat × Nat)} (h : LogI l tx g b tN) : txE l.text l.revs = 0 := txE_zero h.hd.tx h.len (okRs_txr _ _ _ h.ok)
theorem LogI.hg {l : Lg} {tx : ByteArray} {g b : Nat} {tN : List (Nat × Nat)} (h : LogI l tx g b tN) : Hg l tx := by
 have hl : (tbN tN).length = 8 := by simp [tbN, h.hd.len]
 refine ⟨⟨⟨by rw [h.ef]; exact hl, by rw [h.tb, tblF_len]; exact hl⟩, by rw [h.eb]; omega, by rw [h.eb]; have := h.hd.b; omega, h.len, ?_⟩, h.txe, h.now⟩
 rw [← h.now]
 exact txt_size _ _ _ h.hd.tx
theorem LogI.add {l : Lg} {tx : ByteArray} {g b : Nat} {tN : List (Nat × Nat)} (h : LogI l tx g b tN) {r : Rv} (hn : nextE l tx.size r = 0) : LogI (addL l r) (doS r.2.2 tx) g b tN := by
 have hone := (next_len hn).1
 obtain ⟨a1, a2, a3, a4, a5, a6, a7⟩ := addLs_same l.revs (L0 g b tN l.text)
 refine ⟨h.hd, h.eg, h.eb, h.ef, ?_, ?_, h.wh, ?_⟩
 · refine okRs_snoc _ _ _ r h.ok hone ?_
   show nextE (addLs (L0 g b tN l.text) l.revs) (txt l.text l.revs l.revs.length).size r = 0
   rw [h.now]
   refine nextE_mv ?_ ?_ ?_ hn
   · rw [addLs_tbl, h.tb, L0_len]
     show tblF ((b : Int) + ((0 : Nat) : Int)) (tbN tN) l.revs = _
     congr 1
   · rw [a2, a5, h.eb]
     simp [L0]
   · rw [a5]; simp [L0]
 · show l.table.set r.1.toNat (r.2.1, l.base + (l.revs.length + 1 : Nat)) = tblF b (tbN tN) (l.revs ++ [r])
   rw [tblF_snoc, h.tb, h.eb]
   congr 2
 · show txt l.text (l.revs ++ [r]) (l.revs ++ [r]).length = _
   rw [List.length_append, List.length_singleton, txt_snoc, h.now]
def natT (T : Tb) : List (Nat × Nat) := T.map fun p => (p.1.toNat, p.2.toNat)
theorem tbN_natT : ∀ T : Tb, (∀ p ∈ T, 0 ≤ p.1 ∧ 0 ≤ p.2) → tbN (natT T) = T
 | [], _ => rfl
 | p :: T, h => by
   have h1 := h p (by simp)
   have h2 := tbN_natT T fun q hq => h q (List.mem_cons_of_mem _ hq)
   unfold tbN natT at h2 ⊢
   simp only [List.map_cons, List.map_map] at h2 ⊢
   rw [h2]
   congr 1
   exact Prod.ext (Int.toNat_of_nonneg h1.1) (Int.toNat_of_nonneg h1.2)
theorem tblF_ok : ∀ (rs : List Rv) (n : Int) (T : Tb), (∀ p ∈ T, (0 ≤ p.1 ∧ p.1 ≤ 2147483647) ∧ 0 ≤ p.2 ∧ p.2 ≤ 2147483647) → (∀ r ∈ rs, oneE r = 0) → 0 ≤ n → n + (rs.length : Int) ≤ 2147483647 → ∀ p ∈ tblF n T rs, (0 ≤ p.1 ∧ p.1 ≤ 2147483647) ∧ 0 ≤ p.2 ∧ p.2 ≤ 2147483647
 | [], n, T, h, _, _, _ => h
 | r :: rs, n, T, h, h1, h2, h3 => by
   obtain ⟨_, _, o1, o2, _⟩ := one_parts (h1 r (by simp))
   have h3' : n + 1 + (rs.length : Int) ≤ 2147483647 := by simp only [List.length_cons] at h3; omega
   refine tblF_ok rs (n + 1) _ (fun p hp => ?_) (fun q hq => h1 q (List.mem_cons_of_mem _ hq)) (by omega) h3'
   rcases List.mem_or_eq_of_mem_set hp with hp | rfl
   · exact h p hp
   · exact ⟨⟨o1, o2⟩, by simp only; omega, by simp only; omega⟩
def tabK (l : Lg) (k : Nat) : List (Nat × Nat) := natT (tblF l.base l.first (l.revs.take k))
theorem tbN_ok (tN : List (Nat × Nat)) (h : ∀ p ∈ tN, p.1 ≤ 2147483647 ∧ p.2 ≤ 2147483647) : ∀ p ∈ tbN tN, (0 ≤ p.1 ∧ p.1 ≤ 2147483647) ∧ 0 ≤ p.2 ∧ p.2 ≤ 2147483647 := by
 intro p hp
 unfold tbN at hp
 obtain ⟨q, hq, rfl⟩ := List.mem_map.1 hp
 have := h q hq
 simp only
 omega
section
variable {l : Lg} {tx : ByteArray} {g b : Nat} {tN : List (Nat × Nat)}
theorem LogI.tab_ok (h : LogI l tx g b tN) (k : Nat) (hk : k ≤ l.revs.length) : ∀ p ∈ tblF l.base l.first (l.revs.take k), (0 ≤ p.1 ∧ p.1 ≤ 2147483647) ∧ 0 ≤ p.2 ∧ p.2 ≤ 2147483647 := by
 have := h.num
 refine tblF_ok _ _ _ (by rw [h.ef]; exact tbN_ok _ h.hd.t) (fun r hr => h.one r (List.mem_of_mem_take hr)) (by rw [h.eb]; omega) ?_
 rw [h.eb, List.length_take]
 omega
theorem LogI.tab (h : LogI l tx g b tN) (k : Nat) (hk : k ≤ l.revs.length) : tbN (tabK l k) = tblF l.base l.first (l.revs.take k) := tbN_natT _ fun p hp => by have := h.tab_ok k hk p hp; exact ⟨this.1.1, this.2.1⟩
theorem LogI.hdK (h : LogI l tx g b tN) (k : Nat) (hk : k ≤ l.revs.length) (hg : g + 1 ≤ 2147483647) : HdI (g + 1) (b + k) (tabK l k) (txt l.text l.revs k) := by
 have hn := h.num
 refine ⟨?_, hg, by omega, ?_, txt_size _ _ _ h.hd.tx⟩
 · have := congrArg List.length (h.tab k hk)
   rw [tblF_len, h.ef] at this
   simp only [tbN, List.length_map] at this
   rw [this]; exact h.hd.len
 · intro p hp
   unfold tabK natT at hp
   obtain ⟨q, hq, rfl⟩ := List.mem_map.1 hp
   have := h.tab_ok k hk q hq
   simp only
   omega
end
/-! the slots -/
def CurI (x : Slt) (l : Lg) (g b : Nat) (tN : List (Nat × Nat)) (safe : Int) : Prop :=
 ∃ (r1 r2 : List Rv) (j0 : Nat), l.revs = r1 ++ r2 ∧ x.1.data.toList = flat (SF g b tN l.text r1 (some r2)) ∧ j0 ≤ r2.length ∧ x.2 = ((flat (SF g b tN l.text r1 (some (r2.take j0)))).length : Nat) ∧ safe ≤ (b : Int) + (r1.length : Int) + (j0 : Int)
def OldI (x : Slt) (g : Nat) : Prop :=
 ∃ (g' b' : Nat) (t' : List (Nat × Nat)) (tx' : ByteArray) (r1 : List Rv) (r2 : Option (List Rv)), HdI g' b' t' tx' ∧ (∀ r ∈ r1, oneE r = 0) ∧ (∀ l, r2 = some l → ∀ r ∈ l, oneE r = 0) ∧ x.1.data.toList = flat (SF g' b' t' tx' r1 r2) ∧ (SF g' b' t' tx' r1 r2).length ≤ 66 ∧ g' < g ∧ 0 ≤ x.2 ∧ x.2 ≤ (x.1.size : Int) ∧ x.1.size ≤ 300000
def Emp (x : Slt) : Prop := x.1.size = 0 ∧ x.2 = 0
def OthI (x : Slt) (l : Lg) (safe : Int) (old : Bool) (m : Option Mv) (g b : Nat) : Prop :=
 match m with
 | none => (old = true ∧ OldI x g) ∨ (old = false ∧ Emp x)
 | some (fl, cp, wh) => old = false ∧ ∃ k : Nat, fl = (b : Int) + (k : Int) ∧ k ≤ l.revs.length ∧
    ((cp = -1 ∧ wh = false ∧ Emp x) ∨
     (∃ c : Nat, cp = (c : Int) ∧ wh = false ∧ k + c ≤ l.revs.length ∧ x.1.data.toList = flat (SF (g + 1) (b + k) (tabK l k) (txt l.text l.revs k) ((l.revs.drop k).take c) none) ∧ x.2 = 0) ∨
     (∃ (c : Nat) (r1 r2 : List Rv) (j0 : Nat), cp = (c : Int) ∧ c ≤ 64 ∧ wh = true ∧ l.revs.drop k = r1 ++ r2 ∧ x.1.data.toList = flat (SF (g + 1) (b + k) (tabK l k) (txt l.text l.revs k) r1 (some r2)) ∧ j0 ≤ r2.length ∧
        ((x.2 = 0 ∧ j0 = 0) ∨ x.2 = ((flat (SF (g + 1) (b + k) (tabK l k) (txt l.text l.revs k) r1 (some (r2.take j0)))).length : Nat)) ∧ safe ≤ (b : Int) + (k : Int) + (r1.length : Int) + (j0 : Int)))
structure ShI (s : Sh) (m : Option Mv) (g b : Nat) (tN : List (Nat × Nat)) : Prop where
 log : LogI s.log s.text g b tN
 at1 : s.at_ ≤ 1
 g1 : g + 1 ≤ 2147483647
 cur : CurI (slotOf s s.at_) s.log g b tN s.safe
 oth : OthI (slotOf s (1 - s.at_)) s.log s.safe s.old m g b
 sf : s.safe ≤ s.log.base + (s.log.revs.length : Int)
def SzI (x : Slt) : Prop := x.1.size ≤ 300000 ∧ 0 ≤ x.2 ∧ x.2 ≤ (x.1.size : Int)
theorem bs_sz {x : ByteArray} {fs : List UInt8} (h : x.data.toList = fs) : x.size = fs.length := by rw [← h]; rfl
theorem flat_pre (fs : List Fm) (j : Nat) : (flat (fs.take j)).length ≤ (flat fs).length := by
 conv => rhs; rw [← List.take_append_drop j fs, flat_app, List.length_append]
 omega
theorem SF_pre (g b : Nat) (t : List (Nat × Nat)) (tx : ByteArray) (r1 r2 : List Rv) (j : Nat) : (flat (SF g b t tx r1 (some (r2.take j)))).length ≤ (flat (SF g b t tx r1 (some r2))).length := by
 rw [← SF_take2 r1 r2 j]; exact flat_pre _ _
section
variable {s : Sh} {m : Option Mv} {g b : Nat} {tN : List (Nat × Nat)}
theorem ShI.szc (h : ShI s m g b tN) : SzI (slotOf s s.at_) := by
 obtain ⟨r1, r2, j0, e1, e2, e3, e4, e5⟩ := h.cur
 have hl := h.log.len
 have h1 : ∀ r ∈ r1, oneE r = 0 := fun r hr => h.log.one r (by rw [e1]; exact List.mem_append_left _ hr)
 have h2 : ∀ l, some r2 = some l → ∀ r ∈ l, oneE r = 0 := fun l e r hr => by injection e with e; subst e; exact h.log.one r (by rw [e1]; exact List.mem_append_right _ hr)
 have hs := SF_size h.log.hd r1 (some r2) h1 h2
 have hz := bs_sz e2
 have hp := SF_pre g b tN s.log.text r1 r2 j0
 rw [e1, List.length_append] at hl
 simp only at hs
 refine ⟨by omega, by omega, by omega⟩
theorem ShI.szo (h : ShI s m g b tN) : SzI (slotOf s (1 - s.at_)) := by
 have ho := h.oth
 have hl := h.log.len
 unfold OthI at ho
 cases m with
 | none =>
   rcases ho with ⟨_, g', b', t', tx', r1, r2, a1, a2, a3, a4, a5, a6, a7, a8, a9⟩ | ⟨_, a1, a2⟩
   · exact ⟨a9, a7, a8⟩
   · exact ⟨by omega, by omega, by omega⟩
 | some v =>
   obtain ⟨fl, cp, wh⟩ := v
   obtain ⟨_, k, _, hk, hx⟩ := ho
   have hd := h.log.hdK k hk h.g1
   have hone : ∀ r ∈ s.log.revs.drop k, oneE r = 0 := fun r hr => h.log.one r (List.mem_of_mem_drop hr)
   rcases hx with ⟨_, _, a1, a2⟩ | ⟨c, _, _, _, a1, a2⟩ | ⟨c, r1, r2, j0, _, _, _, e1, e2, e3, e4, e5⟩
   · exact ⟨by omega, by omega, by omega⟩
   · have hs := SF_size hd ((s.log.revs.drop k).take c) none (fun r hr => hone r (List.mem_of_mem_take hr)) (fun l e => by simp at e)
     have hz := bs_sz a1
     rw [List.length_take, List.length_drop] at hs
     simp only at hs
     exact ⟨by omega, by omega, by omega⟩
   · have h1 : ∀ r ∈ r1, oneE r = 0 := fun r hr => hone r (by rw [e1]; exact List.mem_append_left _ hr)
     have h2 : ∀ l, some r2 = some l → ∀ r ∈ l, oneE r = 0 := fun l e r hr => by injection e with e; subst e; exact hone r (by rw [e1]; exact List.mem_append_right _ hr)
     have hs := SF_size hd r1 (some r2) h1 h2
     have hz := bs_sz e2
     have hp := SF_pre (g + 1) (b + k) (tabK s.log k) (txt s.log.text s.log.revs k) r1 r2 j0
     have hll := congrArg List.length e1
     rw [List.length_append, List.length_drop] at hll
     simp only at hs
     rcases e4 with ⟨e4, _⟩ | e4
     · exact ⟨by omega, by omega, by omega⟩
     · exact ⟨by omega, by omega, by omega⟩
theorem look_of {s : Sh} (h0 : SzI (slotOf s 0)) (h1 : SzI (slotOf s 1)) (i : Nat) (hi : i ≤ 1) : dlook s.d0 s.d1 (i : Int) = 0 := by
 have e0 : sbad s.d0 = 0 := sbad_ok (by have := h0.1; show (slotOf s 0).1.size ≤ _; omega) h0.2.1 h0.2.2
 have e1 : sbad s.d1 = 0 := sbad_ok (by have := h1.1; show (slotOf s 1).1.size ≤ _; omega) h1.2.1 h1.2.2
 unfold dlook dchk
 rw [e0, e1]
 rw [if_neg (by simp), if_neg (by omega)]
theorem ShI.sz (h : ShI s m g b tN) (i : Nat) (hi : i ≤ 1) : SzI (slotOf s i) := by
 have h1 := h.at1
 by_cases e : i = s.at_
 · subst e; exact h.szc
 · obtain rfl : i = 1 - s.at_ := by omega
   exact h.szo
theorem ShI.look (h : ShI s m g b tN) (i : Nat) (hi : i ≤ 1) : dlook s.d0 s.d1 (i : Int) = 0 := look_of (h.sz 0 (by omega)) (h.sz 1 (by omega)) i hi
end
/-! what is done to a slot -/
theorem slot_put (s : Sh) (i j : Nat) (t : ByteArray) (hi : i ≤ 1) (hj : j ≤ 1) (hs : (slotOf s i).1.size + t.size ≤ 1048576) : slotOf (putS s i t) j = if j = i then ((slotOf s i).1 ++ t, (slotOf s i).2) else slotOf s j := by
 obtain rfl | rfl : i = 0 ∨ i = 1 := by omega
 · have hs : s.d0.1.size + t.size ≤ 1048576 := hs
   have e : dapp s.d0 s.d1 ((0 : Nat) : Int) t = ((s.d0.1 ++ t, s.d0.2), s.d1, 0) := by unfold dapp; rw [if_pos (show ((0 : Nat) : Int) = 0 from rfl), if_neg (by omega)]
   unfold putS slotOf
   rw [e]
   (rcases (show j = 0 ∨ j = 1 by omega) with rfl | rfl) <;> rfl
 · have hs : s.d1.1.size + t.size ≤ 1048576 := hs
   have e : dapp s.d0 s.d1 ((1 : Nat) : Int) t = (s.d0, (s.d1.1 ++ t, s.d1.2), 0) := by unfold dapp; rw [if_neg (by decide), if_neg (by omega)]
   unfold putS slotOf
   rw [e]
   (rcases (show j = 0 ∨ j = 1 by omega) with rfl | rfl) <;> rfl
theorem slot_trim (s : Sh) (i j : Nat) (n : Int) (hi : i ≤ 1) (hj : j ≤ 1) : slotOf (trimSh s i n) j = if j = i then trimS (slotOf s i) n else slotOf s j := by
 obtain rfl | rfl : i = 0 ∨ i = 1 := by omega
 · (rcases (show j = 0 ∨ j = 1 by omega) with rfl | rfl) <;> rfl
 · (rcases (show j = 0 ∨ j = 1 by omega) with rfl | rfl) <;> rfl
theorem slot_syn (s : Sh) (i j : Nat) (hi : i ≤ 1) (hj : j ≤ 1) : slotOf (syncSh s i) j = if j = i then ((slotOf s i).1, ((slotOf s i).1.size : Int)) else slotOf s j := by
 obtain rfl | rfl : i = 0 ∨ i = 1 := by omega
 · (rcases (show j = 0 ∨ j = 1 by omega) with rfl | rfl) <;> rfl
 · (rcases (show j = 0 ∨ j = 1 by omega) with rfl | rfl) <;> rfl
theorem trim_emp {x : Slt} (h : SzI x) : Emp (trimS x 0) := by
 refine ⟨?_, ?_⟩
 · show (x.1.extract 0 (0 : Int).toNat).size = 0
   rw [← bs_len, bs_extract]
   simp
 · show min x.2 0 = 0
   have := h.2.1
   omega
theorem frB_flat (r : Rv) : (frB r).data.toList = flat [frR r] := by rw [frB_tx]; simp [flat]
theorem hdB_flat (g b : Nat) (t : List (Nat × Nat)) (tx : ByteArray) : (hdB g b t tx).data.toList = flat (SF g b t tx [] none) := by rw [hdB_tx]; simp [SF, flat]
theorem doneT_flat : doneT.data.toList = flat [doneF] := by rw [doneT_tx]; simp [flat, doneF]
theorem ShI.new : ShI shN none 1 0 tz := by
 refine ⟨⟨⟨rfl, by decide, by decide, by decide, by decide⟩, rfl, rfl, rfl, trivial, rfl, rfl, rfl⟩, by decide, by decide, ⟨[], [], 0, rfl, ?_, Nat.le_refl _, ?_, by decide⟩, .inr ⟨rfl, rfl, rfl⟩, by decide⟩
 · show (hdB 1 0 tz ⟨#[]⟩ ++ doneT).data.toList = flat (SF 1 0 tz ⟨#[]⟩ [] (some []))
   rw [SF_done, flat_app, bs_append, hdB_flat, doneT_flat]
 · show ((hdB 1 0 tz ⟨#[]⟩ ++ doneT).size : Int) = ((flat (SF 1 0 tz ⟨#[]⟩ [] (some []))).length : Nat)
   rw [SF_done, flat_app, ← hdB_flat, ← doneT_flat, ← bs_append]
   rfl
theorem txt_app (l : List Rv) (r : Rv) (s : ByteArray) (k : Nat) (hk : k ≤ l.length) : txt s (l ++ [r]) k = txt s l k := by
 have h := txt_take (l ++ [r]) s l.length k hk
 rw [List.take_left'] at h
 · exact h.symm
 · rfl
theorem CurI.add {x : Slt} {l : Lg} {g b : Nat} {tN : List (Nat × Nat)} {safe : Int} (h : CurI x l g b tN safe) (r : Rv) : CurI (x.1 ++ frB r, x.2) (addL l r) g b tN safe := by
 obtain ⟨r1, r2, j0, e1, e2, e3, e4, e5⟩ := h
 refine ⟨r1, r2 ++ [r], j0, ?_, ?_, ?_, ?_, e5⟩
 · show l.revs ++ [r] = _
   rw [e1, List.append_assoc]
 · show (x.1 ++ frB r).data.toList = flat (SF g b tN l.text r1 (some (r2 ++ [r])))
   rw [SF_snoc2, flat_app, bs_append, e2, frB_flat]
 · simp; omega
 · rw [List.take_append_of_le_length e3]; exact e4
section
variable {s : Sh} {m : Option Mv} {g b : Nat} {tN : List (Nat × Nat)}
theorem ShI.put_ok (h : ShI s m g b tN) (i : Nat) (hi : i ≤ 1) {t : ByteArray} (ht : t.size ≤ 700000) : (slotOf s i).1.size + t.size ≤ 1048576 := by have := (h.sz i hi).1; omega
theorem ShI.look_put (h : ShI s m g b tN) (i j : Nat) (hi : i ≤ 1) (hj : j ≤ 1) {t : ByteArray} (ht : t.size ≤ 5000) : dlook (putS s i t).d0 (putS s i t).d1 (j : Int) = 0 := by
 have hp := fun j hj => slot_put s i j t hi hj (h.put_ok i hi (by omega))
 have key : ∀ j, j ≤ 1 → (slotOf (putS s i t) j).1.size ≤ 310000 ∧ 0 ≤ (slotOf (putS s i t) j).2 ∧ (slotOf (putS s i t) j).2 ≤ ((slotOf (putS s i t) j).1.size : Int) := fun j hj => by
  rw [hp j hj]
  have h1 := h.sz j hj
  have h2 := h.sz i hi
  unfold SzI at h1 h2
  split
  · simp only [ByteArray.size_append]; omega
  · omega
 have k0 := key 0 (by omega)
 have k1 := key 1 (by omega)
 have e0 : sbad (putS s i t).d0 = 0 := sbad_ok (by have := k0.1; show (slotOf (putS s i t) 0).1.size ≤ _; omega) k0.2.1 k0.2.2
 have e1 : sbad (putS s i t).d1 = 0 := sbad_ok (by have := k1.1; show (slotOf (putS s i t) 1).1.size ≤ _; omega) k1.2.1 k1.2.2
 unfold dlook dchk
 rw [e0, e1]
 rw [if_neg (by simp), if_neg (by omega)]
theorem tabK_add {l : Lg} {r : Rv} {k : Nat} (hk : k ≤ l.revs.length) : tabK (addL l r) k = tabK l k := by
 unfold tabK
 show natT (tblF l.base l.first ((l.revs ++ [r]).take k)) = _
 rw [List.take_append_of_le_length hk]
theorem ShI.add (h : ShI s m g b tN) (r : Rv) : ShI (addG s m r) m g b tN := by
 unfold addG
 split
 case isFalse => exact h
 rename_i hn
 have hone := (next_len hn).1
 have hfb := frB_size hone
 have hl := h.log.add hn
 have ha := h.at1
 have hsf : s.safe ≤ (addL s.log r).base + ((addL s.log r).revs.length : Int) := by
  have := h.sf
  show s.safe ≤ s.log.base + ((s.log.revs ++ [r]).length : Int)
  rw [List.length_append, List.length_singleton]
  omega
 have hp := fun j hj => slot_put s s.at_ j (frB r) h.at1 hj (h.put_ok s.at_ h.at1 (by omega))
 split
 · rename_i hwh
   cases m with
   | none => simp [whM] at hwh
   | some v =>
     obtain ⟨fl, cp, wh⟩ := v
     obtain ⟨ho, k, e1, hk, hx⟩ := h.oth
     have hwh : wh = true := hwh
     rcases hx with ⟨_, e, _⟩ | ⟨c, _, e, _⟩ | ⟨c, r1, r2, j0, ec, ec2, ew, d1, d2, d3, d4, d5⟩
     · rw [e] at hwh; cases hwh
     · rw [e] at hwh; cases hwh
     · have hz2 : (slotOf (putS s s.at_ (frB r)) (1 - s.at_)).1.size + (frB r).size ≤ 1048576 := by
        rw [hp (1 - s.at_) (by omega), if_neg (by omega)]
        exact h.put_ok _ (by omega) (by omega)
       have hq := fun j hj => slot_put (putS s s.at_ (frB r)) (1 - s.at_) j (frB r) (by omega) hj hz2
       refine ⟨hl, h.at1, h.g1, ?_, ?_, hsf⟩
       · show CurI (slotOf (putS (putS s s.at_ (frB r)) ((1 - s.at_ : Nat) : Int) (frB r)) s.at_) (addL s.log r) g b tN s.safe
         rw [hq s.at_ h.at1, if_neg (by omega), hp s.at_ h.at1, if_pos rfl]
         exact h.cur.add r
       · show OthI (slotOf (putS (putS s s.at_ (frB r)) ((1 - s.at_ : Nat) : Int) (frB r)) (1 - s.at_)) (addL s.log r) s.safe s.old (some (fl, cp, wh)) g b
         rw [hq _ (by omega), if_pos rfl, hp _ (by omega), if_neg (by omega)]
         refine ⟨ho, k, e1, ?_, .inr (.inr ⟨c, r1, r2 ++ [r], j0, ec, ec2, ew, ?_, ?_, ?_, ?_, d5⟩)⟩
         · show k ≤ (s.log.revs ++ [r]).length
           simp; omega
         · show (s.log.revs ++ [r]).drop k = _
           rw [List.drop_append_of_le_length hk, d1, List.append_assoc]
         · show ((slotOf s (1 - s.at_)).1 ++ frB r).data.toList = flat (SF (g + 1) (b + k) (tabK (addL s.log r) k) (txt s.log.text (s.log.revs ++ [r]) k) r1 (some (r2 ++ [r])))
           rw [tabK_add hk, txt_app _ _ _ _ hk, SF_snoc2, flat_app, bs_append, d2, frB_flat]
         · simp; omega
         · show ((slotOf s (1 - s.at_)).2 = 0 ∧ j0 = 0) ∨ (slotOf s (1 - s.at_)).2 = ((flat (SF (g + 1) (b + k) (tabK (addL s.log r) k) (txt s.log.text (s.log.revs ++ [r]) k) r1 (some ((r2 ++ [r]).take j0)))).length : Nat)
           rw [tabK_add hk, txt_app _ _ _ _ hk, List.take_append_of_le_length d3]
           exact d4
 · rename_i hwh
   refine ⟨hl, h.at1, h.g1, ?_, ?_, hsf⟩
   · show CurI (slotOf (putS s s.at_ (frB r)) s.at_) (addL s.log r) g b tN s.safe
     rw [hp s.at_ h.at1, if_pos rfl]
     exact h.cur.add r
   · show OthI (slotOf (putS s s.at_ (frB r)) (1 - s.at_)) (addL s.log r) s.safe s.old m g b
     rw [hp _ (by omega), if_neg (by omega)]
     have ho := h.oth
     cases m with
     | none => exact ho
     | some v =>
       obtain ⟨fl, cp, wh⟩ := v
       obtain ⟨ho, k, e1, hk, hx⟩ := ho
       refine ⟨ho, k, e1, ?_, ?_⟩
       · show k ≤ (s.log.revs ++ [r]).length
         simp; omega
       · rcases hx with hx | ⟨c, c1, c2, c3, c4, c5⟩ | ⟨c, r1, r2, j0, ec, ec2, ew, _⟩
         · exact .inl hx
         · refine .inr (.inl ⟨c, c1, c2, ?_, ?_, c5⟩)
           · show k + c ≤ (s.log.revs ++ [r]).length
             simp; omega
           · show (slotOf s (1 - s.at_)).1.data.toList = flat (SF (g + 1) (b + k) (tabK (addL s.log r) k) (txt s.log.text (s.log.revs ++ [r]) k) (((s.log.revs ++ [r]).drop k).take c) none)
             rw [tabK_add hk, txt_app _ _ _ _ hk, List.drop_append_of_le_length hk, List.take_append_of_le_length (by rw [List.length_drop]; omega)]
             exact c4
         · exact absurd ew hwh
theorem ShI.clear (h : ShI s none g b tN) : ShI { trimSh s ((1 - s.at_ : Nat) : Int) 0 with old := false } none g b tN := by
 have ha := h.at1
 refine ⟨h.log, h.at1, h.g1, ?_, .inr ⟨rfl, ?_⟩, h.sf⟩
 · show CurI (slotOf (trimSh s ((1 - s.at_ : Nat) : Int) 0) s.at_) s.log g b tN s.safe
   rw [slot_trim s _ _ _ (by omega) h.at1, if_neg (by omega)]
   exact h.cur
 · show Emp (slotOf (trimSh s ((1 - s.at_ : Nat) : Int) 0) (1 - s.at_))
   rw [slot_trim s _ _ _ (by omega) (by omega), if_pos rfl]
   exact trim_emp h.szo
theorem ShI.look_trim (h : ShI s m g b tN) : dlook (trimSh s ((1 - s.at_ : Nat) : Int) 0).d0 (trimSh s ((1 - s.at_ : Nat) : Int) 0).d1 ((1 - s.at_ : Nat) : Int) = 0 := by
 have ha := h.at1
 have key : ∀ j, j ≤ 1 → SzI (slotOf (trimSh s ((1 - s.at_ : Nat) : Int) 0) j) := fun j hj => by
  rw [slot_trim s _ _ _ (by omega) hj]
  split
  · obtain ⟨a, b⟩ := trim_emp (h.sz (1 - s.at_) (by omega))
    exact ⟨by omega, by omega, by omega⟩
  · exact h.sz j hj
 exact look_of (key 0 (by omega)) (key 1 (by omega)) _ (by omega)
def syncG (s : Sh) (m : Option Mv) : Sh := { (if whM m = true then syncSh (syncSh s ((1 - s.at_ : Nat) : Int)) s.at_ else syncSh s s.at_) with safe := s.log.base + (s.log.revs.length : Int) }
theorem ShI.sync (h : ShI s m g b tN) : ShI (syncG s m) m g b tN := by
 have ha := h.at1
 have hcur : CurI ((slotOf s s.at_).1, ((slotOf s s.at_).1.size : Int)) s.log g b tN (s.log.base + (s.log.revs.length : Int)) := by
  obtain ⟨p1, p2, i0, f1, f2, f3, f4, f5⟩ := h.cur
  refine ⟨p1, p2, p2.length, f1, f2, Nat.le_refl _, ?_, ?_⟩
  · rw [List.take_length]
    simp only
    rw [bs_sz f2]
  · rw [h.log.eb, f1, List.length_append]
    omega
 unfold syncG
 split
 · rename_i hwh
   have hs := fun j hj => slot_syn s (1 - s.at_) j (by omega) hj
   have hq := fun j hj => slot_syn (syncSh s ((1 - s.at_ : Nat) : Int)) s.at_ j ha hj
   refine ⟨h.log, h.at1, h.g1, ?_, ?_, Int.le_refl _⟩
   · show CurI (slotOf (syncSh (syncSh s ((1 - s.at_ : Nat) : Int)) s.at_) s.at_) s.log g b tN _
     rw [hq s.at_ ha, if_pos rfl, hs s.at_ ha, if_neg (by omega)]
     exact hcur
   · show OthI (slotOf (syncSh (syncSh s ((1 - s.at_ : Nat) : Int)) s.at_) (1 - s.at_)) s.log (s.log.base + (s.log.revs.length : Int)) s.old m g b
     rw [hq _ (by omega), if_neg (by omega), hs _ (by omega), if_pos rfl]
     cases m with
     | none => simp [whM] at hwh
     | some v =>
       obtain ⟨fl, cp, wh⟩ := v
       have hwh : wh = true := hwh
       obtain ⟨ho, k, e1, hk, hx⟩ := h.oth
       refine ⟨ho, k, e1, hk, ?_⟩
       rcases hx with ⟨_, e, _⟩ | ⟨c, _, e, _⟩ | ⟨c, r1, r2, j0, ec, ec2, ew, d1, d2, d3, d4, d5⟩
       · rw [e] at hwh; cases hwh
       · rw [e] at hwh; cases hwh
       · refine .inr (.inr ⟨c, r1, r2, r2.length, ec, ec2, ew, d1, d2, Nat.le_refl _, .inr ?_, ?_⟩)
         · rw [List.take_length]
           simp only
           rw [bs_sz d2]
         · have := congrArg List.length d1
           rw [List.length_append, List.length_drop] at this
           rw [h.log.eb]
           omega
 · rename_i hwh
   have hq := fun j hj => slot_syn s s.at_ j ha hj
   refine ⟨h.log, h.at1, h.g1, ?_, ?_, Int.le_refl _⟩
   · show CurI (slotOf (syncSh s s.at_) s.at_) s.log g b tN _
     rw [hq s.at_ ha, if_pos rfl]
     exact hcur
   · show OthI (slotOf (syncSh s s.at_) (1 - s.at_)) s.log (s.log.base + (s.log.revs.length : Int)) s.old m g b
     rw [hq _ (by omega), if_neg (by omega)]
     have ho := h.oth
     cases m with
     | none => exact ho
     | some v =>
       obtain ⟨fl, cp, wh⟩ := v
       obtain ⟨ho, k, e1, hk, hx⟩ := ho
       refine ⟨ho, k, e1, hk, ?_⟩
       rcases hx with hx | hx | ⟨c, r1, r2, j0, ec, ec2, ew, _⟩
       · exact .inl hx
       · exact .inr (.inl hx)
       · exact absurd ew hwh
end
structure ShG (w : World) (F : Nat → Prop) (q : Nat) (s : Sh) (m : Option Mv) (g b : Nat) (tN : List (Nat × Nat)) : Prop where
 mem : ShM w F q s m
 inv : ShI s m g b tN
theorem ShM.back {w w' : World} {F : Nat → Prop} {q : Nat} {s' : Sh} {sl : Sl} {ss : List Sl} {mp : Option Addr} {m' : Option Mv} (hF : F q) (hlt : ∀ k, F k → k < w.heap.size) (hr : ∀ k, (Value.slice sl.1 sl.2.1 sl.2.2).ownBlock = some k → F k) (hs : ∀ d ∈ ss, ∀ k, (Value.slice d.1 d.2.1 d.2.2).ownBlock = some k → F k)
 (hz : w.heap.size ≤ w'.heap.size) (h : ShR w' q s' sl ss mp) (hm : MvM w' (Go.Proofs.Ytokngfinnieccaa.grow F w w') m' mp) : ShM w' (Go.Proofs.Ytokngfinnieccaa.grow F w w') q s' m' :=
 ⟨.inl hF, fun k hk => hk.elim (fun hk => Nat.lt_of_lt_of_le (hlt k hk) hz) (·.2), sl, ss, mp, h.k, h.v, fun k hk => .inl (hr k hk), fun d hd k hk => .inl (hs d hd k hk), hm⟩
theorem ShG.below {w w' : World} {F : Nat → Prop} {q : Nat} {s : Sh} {m : Option Mv} {g b : Nat} {tN : List (Nat × Nat)} (h : ShG w F q s m g b tN) (hb : Below w.heap.size w w') : ShG w' F q s m g b tN := ⟨h.mem.below hb, h.inv⟩
theorem sadd_G (q : Nat) (s : Sh) (m : Option Mv) (F : Nat → Prop) (g b : Nat) (tN : List (Nat × Nat)) (a c : Int) (d : List Pt) (A : Option Addr) (n cc : Nat) (w : World) (h : ShG w F q s m g b tN) (hd : RdP w w.heap.size A n cc d) :
 Calls Try.prog 42 #[.pointer (some ⟨q, 0, none⟩), .agg #[.int .i64 a, .int .i64 c, .slice A n cc]] w fun e w' =>
  e = .returned (.tuple #[.int .i64 (if nextE s.log s.text.size (a, c, d) = 0 then s.log.base + (s.log.revs.length + 1 : Nat) else 0), .int .i64 (nextE s.log s.text.size (a, c, d))]) ∧ ShG w' (grow F w w') q (addG s m (a, c, d)) m g b tN ∧ Only w w' F := by
 have ha := h.inv.at1
 refine (sadd_M q s m F a c d A n cc w h.mem h.inv.log.hg ha (h.inv.look _ ha) (fun _ hn => h.inv.look_put s.at_ (1 - s.at_) ha (by omega) (by have := frB_size (next_len hn).1; omega)) hd).mono ?_
 rintro e w' ⟨rfl, hM, oo⟩
 exact ⟨rfl, ⟨hM, h.inv.add _⟩, oo⟩
theorem ssync_none (q : Nat) (s : Sh) (sl : Sl) (ss : List Sl)  (w : World) (h : ShR w q s sl ss none) (h8 : Lg8 s.log) (hat : s.at_ ≤ 1) (hb0 : 0 ≤ s.log.base) (hb1 : s.log.base ≤ 2147483647) (hr : s.log.revs.length ≤ 64) (hl : dlook s.d0 s.d1 (s.at_ : Int) = 0) :
 Calls Try.prog 43 #[.pointer (some ⟨q, 0, none⟩)] w fun e w' => e = .returned (.tuple #[]) ∧ ShR w' q { syncSh s s.at_ with safe := s.log.base + (s.log.revs.length : Int) } sl ss none ∧ Only w w' (fun k => k = q) := by
 obtain ⟨AT, hAT⟩ : ∃ AT, s.at_ = AT := ⟨_, rfl⟩
 obtain ⟨OA, hOA⟩ : ∃ OA : Nat, 1 - AT = OA := ⟨_, rfl⟩
 rw [hAT] at hat
 have hwr : IntKind.i64.wrap (1 - (AT : Int)) = (OA : Int) := by rw [show 1 - (AT : Int) = (OA : Int) by omega]; exact IntWalk.i64_in _ (by omega)
 have HAT := Lib.hid hAT
 have HOA := Lib.hid hOA
 clear hAT hOA hat
 rw [HAT.out] at hl ⊢
 have HLK := hl
 clear hl
 have c4 : w.cell? ⟨q, 4, none⟩ = some (.int .i64 (AT : Int)) := (h.k.cell 4).trans (shc_at.trans (by rw [← HAT.out]))
 have c45 : w.cell? ⟨q, 45, none⟩ = some (.pointer none) := (h.k.cell 45).trans (shc_mv h8)
 have lq := h.k.lt
 have o0 := Only.refl w (fun k => k = q)
 go_enter Try.func43, Try.ntmps43
 go_upto_region 2 with (fail)
 clear c45
 have hc : Calls Try.prog 84 #[.pointer (some ⟨q, 0, none⟩), .int .i64 (AT : Int)] w fun e w' => e = .returned (.tuple #[]) ∧ Blk w' q 134 (shc (syncSh s AT) sl none) ∧ Only w w' (fun k => k = q) := ssync_any q s sl none AT w h.k HLK
 have Hcz := Lib.hid hc
 have H7 := Lib.hid h
 have O7 := Lib.hid o0
 clear hc h o0
 go_wp2_with fail
 refine Hcz.out.mono ?_
 rintro e w8 ⟨rfl, k8, o8⟩
 have h8' : ShR w8 q (syncSh s AT) sl ss none := H7.out.box o8 k8 rfl
 have oA := O7.out.trans o8
 have hh := shead_any q (syncSh s AT) sl none w8 h8'.k h8 h8'.len hb0 hb1 (by show s.log.revs.length ≤ 1000; omega)
 have Hh := Lib.hid hh
 have H8 := Lib.hid h8'
 have O8 := Lib.hid oA
 clear hh h8' oA o8 k8 Hcz H7 O7
 go_wp2_with fail
 refine Hh.out.mono ?_
 rintro e w9 ⟨rfl, hb9⟩
 have h9 := H8.out.below hb9
 have oD := O8.out.trans (Only.of_below (S := fun k => k = q) hb9)
 have s44 : w9.cell? ⟨q, 44, none⟩ = some (.int .i64 s.safe) := (h9.k.cell 44).trans (shc_safe (s := syncSh s AT) h8)
 have t44 := h9.k.frozen 44
 have lq9 := h9.k.lt
 have H9 := Lib.hid h9
 have OD := Lib.hid oD
 clear h9 oD hb9 Hh H8 O8
 go_wp2_with fail
 go_end0
 have k6 := H9.out.k.set_ 44 (.int .i64 (s.log.base + (s.log.revs.length : Int)))
 rw [shc_set44 (syncSh s AT) sl none _ h8] at k6
 exact ⟨rfl, H9.out.box (Only.setSelf _ q 44 _) k6 rfl, OD.out.trans (Only.setSelf _ q 44 _)⟩
theorem ssync_no (q : Nat) (s : Sh) (sl : Sl) (ss : List Sl) (g fl : Nat) (cp : Int) (w : World) (h : ShR w q s sl ss (some ⟨g, 0, none⟩)) (hm : Blk w g 141 #[.int .i64 fl, .int .i64 cp, .bool false]) (h8 : Lg8 s.log) (hat : s.at_ ≤ 1) (hb0 : 0 ≤ s.log.base) (hb1 : s.log.base ≤ 2147483647) (hr : s.log.revs.length ≤ 64) (hl : dlook s.d0 s.d1 (s.at_ : Int) = 0) :
 Calls Try.prog 43 #[.pointer (some ⟨q, 0, none⟩)] w fun e w' => e = .returned (.tuple #[]) ∧ ShR w' q { syncSh s s.at_ with safe := s.log.base + (s.log.revs.length : Int) } sl ss (some ⟨g, 0, none⟩) ∧ Only w w' (fun k => k = q) := by
 obtain ⟨AT, hAT⟩ : ∃ AT, s.at_ = AT := ⟨_, rfl⟩
 obtain ⟨OA, hOA⟩ : ∃ OA : Nat, 1 - AT = OA := ⟨_, rfl⟩
 rw [hAT] at hat
 have hwr : IntKind.i64.wrap (1 - (AT : Int)) = (OA : Int) := by rw [show 1 - (AT : Int) = (OA : Int) by omega]; exact IntWalk.i64_in _ (by omega)
 have HAT := Lib.hid hAT
 have HOA := Lib.hid hOA
 clear hAT hOA hat
 rw [HAT.out] at hl ⊢
 have HLK := hl
 clear hl
 have c4 : w.cell? ⟨q, 4, none⟩ = some (.int .i64 (AT : Int)) := (h.k.cell 4).trans (shc_at.trans (by rw [← HAT.out]))
 have c45 : w.cell? ⟨q, 45, none⟩ = some (.pointer (some ⟨g, 0, none⟩)) := (h.k.cell 45).trans (shc_mv h8)
 have lq := h.k.lt
 have m0 : w.cell? ⟨g, 0, none⟩ = some (.int .i64 fl) := hm.cell 0
 have m1 : w.cell? ⟨g, 1, none⟩ = some (.int .i64 cp) := hm.cell 1
 have m2 : w.cell? ⟨g, 2, none⟩ = some (.bool false) := hm.cell 2
 have lg := hm.lt
 have o0 := Only.refl w (fun k => k = q)
 go_enter Try.func43, Try.ntmps43
 go_upto_region 2 with (fail)
 clear c45 m0 m1 m2 hm
 have hc : Calls Try.prog 84 #[.pointer (some ⟨q, 0, none⟩), .int .i64 (AT : Int)] w fun e w' => e = .returned (.tuple #[]) ∧ Blk w' q 134 (shc (syncSh s AT) sl (some ⟨g, 0, none⟩)) ∧ Only w w' (fun k => k = q) := ssync_any q s sl (some ⟨g, 0, none⟩) AT w h.k HLK
 have Hcz := Lib.hid hc
 have H7 := Lib.hid h
 have O7 := Lib.hid o0
 clear hc h o0
 go_wp2_with fail
 refine Hcz.out.mono ?_
 rintro e w8 ⟨rfl, k8, o8⟩
 have h8' : ShR w8 q (syncSh s AT) sl ss (some ⟨g, 0, none⟩) := H7.out.box o8 k8 rfl
 have oA := O7.out.trans o8
 have hh := shead_any q (syncSh s AT) sl (some ⟨g, 0, none⟩) w8 h8'.k h8 h8'.len hb0 hb1 (by show s.log.revs.length ≤ 1000; omega)
 have Hh := Lib.hid hh
 have H8 := Lib.hid h8'
 have O8 := Lib.hid oA
 clear hh h8' oA o8 k8 Hcz H7 O7
 go_wp2_with fail
 refine Hh.out.mono ?_
 rintro e w9 ⟨rfl, hb9⟩
 have h9 := H8.out.below hb9
 have oD := O8.out.trans (Only.of_below (S := fun k => k = q) hb9)
 have s44 : w9.cell? ⟨q, 44, none⟩ = some (.int .i64 s.safe) := (h9.k.cell 44).trans (shc_safe (s := syncSh s AT) h8)
 have t44 := h9.k.frozen 44
 have lq9 := h9.k.lt
 have H9 := Lib.hid h9
 have OD := Lib.hid oD
 clear h9 oD hb9 Hh H8 O8
 go_wp2_with fail
 go_end0
 have k6 := H9.out.k.set_ 44 (.int .i64 (s.log.base + (s.log.revs.length : Int)))
 rw [shc_set44 (syncSh s AT) sl (some ⟨g, 0, none⟩) _ h8] at k6
 exact ⟨rfl, H9.out.box (Only.setSelf _ q 44 _) k6 rfl, OD.out.trans (Only.setSelf _ q 44 _)⟩
theorem ssync_yes (q : Nat) (s : Sh) (sl : Sl) (ss : List Sl) (g fl : Nat) (cp : Int) (w : World) (h : ShR w q s sl ss (some ⟨g, 0, none⟩)) (hm : Blk w g 141 #[.int .i64 fl, .int .i64 cp, .bool true]) (h8 : Lg8 s.log) (hat : s.at_ ≤ 1) (hb0 : 0 ≤ s.log.base) (hb1 : s.log.base ≤ 2147483647) (hr : s.log.revs.length ≤ 64) (hl : dlook s.d0 s.d1 (s.at_ : Int) = 0) (hl1 : dlook s.d0 s.d1 ((1 - s.at_ : Nat) : Int) = 0) (hl2 : dlook (syncSh s ((1 - s.at_ : Nat) : Int)).d0 (syncSh s ((1 - s.at_ : Nat) : Int)).d1 (s.at_ : Int) = 0) :
 Calls Try.prog 43 #[.pointer (some ⟨q, 0, none⟩)] w fun e w' => e = .returned (.tuple #[]) ∧ ShR w' q { syncSh (syncSh s ((1 - s.at_ : Nat) : Int)) s.at_ with safe := s.log.base + (s.log.revs.length : Int) } sl ss (some ⟨g, 0, none⟩) ∧ Only w w' (fun k => k = q) := by
 obtain ⟨AT, hAT⟩ : ∃ AT, s.at_ = AT := ⟨_, rfl⟩
 obtain ⟨OA, hOA⟩ : ∃ OA : Nat, 1 - AT = OA := ⟨_, rfl⟩
 rw [hAT] at hat
 have hwr : IntKind.i64.wrap (1 - (AT : Int)) = (OA : Int) := by rw [show 1 - (AT : Int) = (OA : Int) by omega]; exact IntWalk.i64_in _ (by omega)
 have HAT := Lib.hid hAT
 have HOA := Lib.hid hOA
 clear hAT hOA hat
 rw [HAT.out, HOA.out] at hl1 hl2 ⊢
 have HLK := hl2
 clear hl hl2
 have c4 : w.cell? ⟨q, 4, none⟩ = some (.int .i64 (AT : Int)) := (h.k.cell 4).trans (shc_at.trans (by rw [← HAT.out]))
 have c45 : w.cell? ⟨q, 45, none⟩ = some (.pointer (some ⟨g, 0, none⟩)) := (h.k.cell 45).trans (shc_mv h8)
 have lq := h.k.lt
 have m0 : w.cell? ⟨g, 0, none⟩ = some (.int .i64 fl) := hm.cell 0
 have m1 : w.cell? ⟨g, 1, none⟩ = some (.int .i64 cp) := hm.cell 1
 have m2 : w.cell? ⟨g, 2, none⟩ = some (.bool true) := hm.cell 2
 have lg := hm.lt
 have hc : Calls Try.prog 84 #[.pointer (some ⟨q, 0, none⟩), .int .i64 (OA : Int)] w fun e w' => e = .returned (.tuple #[]) ∧ Blk w' q 134 (shc (syncSh s OA) sl (some ⟨g, 0, none⟩)) ∧ Only w w' (fun k => k = q) := ssync_any q s sl (some ⟨g, 0, none⟩) OA w h.k hl1
 have Hc0 := Lib.hid hc
 have H0 := Lib.hid h
 clear hc h hl1 hm
 go_enter Try.func43, Try.ntmps43
 go_wp2_with fail
 refine Hc0.out.mono ?_
 rintro e w1 ⟨rfl, k1, o1⟩
 have h1 : ShR w1 q (syncSh s OA) sl ss (some ⟨g, 0, none⟩) := H0.out.box o1 k1 rfl
 clear c4 c45 m0 m1 m2 lg lq
 have c4 : w1.cell? ⟨q, 4, none⟩ = some (.int .i64 (AT : Int)) := (k1.cell 4).trans (shc_at.trans (by rw [← HAT.out]; rfl))
 have lq := k1.lt
 clear k1 Hc0 H0
 have hc : Calls Try.prog 84 #[.pointer (some ⟨q, 0, none⟩), .int .i64 (AT : Int)] w1 fun e w' => e = .returned (.tuple #[]) ∧ Blk w' q 134 (shc (syncSh (syncSh s OA) AT) sl (some ⟨g, 0, none⟩)) ∧ Only w1 w' (fun k => k = q) := ssync_any q (syncSh s OA) sl (some ⟨g, 0, none⟩) AT w1 h1.k HLK
 have Hcz := Lib.hid hc
 have H7 := Lib.hid h1
 have O7 := Lib.hid o1
 clear hc h1 o1
 go_wp2_with fail
 refine Hcz.out.mono ?_
 rintro e w8 ⟨rfl, k8, o8⟩
 have h8' : ShR w8 q (syncSh (syncSh s OA) AT) sl ss (some ⟨g, 0, none⟩) := H7.out.box o8 k8 rfl
 have oA := O7.out.trans o8
 have hh := shead_any q (syncSh (syncSh s OA) AT) sl (some ⟨g, 0, none⟩) w8 h8'.k h8 h8'.len hb0 hb1 (by show s.log.revs.length ≤ 1000; omega)
 have Hh := Lib.hid hh
 have H8 := Lib.hid h8'
 have O8 := Lib.hid oA
 clear hh h8' oA o8 k8 Hcz H7 O7
 go_wp2_with fail
 refine Hh.out.mono ?_
 rintro e w9 ⟨rfl, hb9⟩
 have h9 := H8.out.below hb9
 have oD := O8.out.trans (Only.of_below (S := fun k => k = q) hb9)
 have s44 : w9.cell? ⟨q, 44, none⟩ = some (.int .i64 s.safe) := (h9.k.cell 44).trans (shc_safe (s := syncSh (syncSh s OA) AT) h8)
 have t44 := h9.k.frozen 44
 have lq9 := h9.k.lt
 have H9 := Lib.hid h9
 have OD := Lib.hid oD
 clear h9 oD hb9 Hh H8 O8
 go_wp2_with fail
 go_end0
 have k6 := H9.out.k.set_ 44 (.int .i64 (s.log.base + (s.log.revs.length : Int)))
 rw [shc_set44 (syncSh (syncSh s OA) AT) sl (some ⟨g, 0, none⟩) _ h8] at k6
 exact ⟨rfl, H9.out.box (Only.setSelf _ q 44 _) k6 rfl, OD.out.trans (Only.setSelf _ q 44 _)⟩
theorem slast_bad (q : Nat) (s : Sh) (sl : Sl) (mp : Option Addr) (a : Int) (w : World) (hk : Blk w q 134 (shc s sl mp)) (ha : a < 0 ∨ 7 < a) :
 Calls Try.prog 49 #[.pointer (some ⟨q, 0, none⟩), .int .i64 a] w fun e w' => e = .returned (.tuple #[.agg #[.int .i64 0, .int .i64 0], .int .i64 1]) ∧ Below w.heap.size w w' := by
 have lk := hk.lt
 have hb := (Below.refl w.heap.size w).alloc (Nat.le_refl _) (.cells #[.int .i64 0, .int .i64 0] 74)
 by_cases h0 : a < 0
 · have hd : decide (a < 0) = true := decide_eq_true h0
   go_enter Try.func49, Try.ntmps49
   go_wp2_with fail
   exact bodyPost_ret (v := .tuple #[.agg #[.int .i64 0, .int .i64 0], .int .i64 1]) (by simp [results, Try.results49, go_sem]) rfl ⟨rfl, hb⟩
 · have hd : decide (a < 0) = false := decide_eq_false h0
   have hd2 : decide (7 < a) = true := decide_eq_true (by omega)
   go_enter Try.func49, Try.ntmps49
   go_wp2_with fail
   exact bodyPost_ret (v := .tuple #[.agg #[.int .i64 0, .int .i64 0], .int .i64 1]) (by simp [results, Try.results49, go_sem]) rfl ⟨rfl, hb⟩
theorem slast_good (q : Nat) (s : Sh) (sl : Sl) (mp : Option Addr) (x : Nat) (w : World) (hk : Blk w q 134 (shc s sl mp)) (h8 : Lg8 s.log) (hx : x < 8) :
 Calls Try.prog 49 #[.pointer (some ⟨q, 0, none⟩), .int .i64 x] w fun e w' => e = .returned (.tuple #[.agg #[.int .i64 (s.log.table[x]'(by have := h8.2; omega)).1, .int .i64 (s.log.table[x]'(by have := h8.2; omega)).2], .int .i64 0]) ∧ Below w.heap.size w w' := by
 obtain ⟨PP, hPP⟩ : ∃ PP, s.log.table[x]'(by have := h8.2; omega) = PP := ⟨_, rfl⟩
 obtain ⟨t1, t2⟩ := lgc_table (s := sl) h8 x hx
 rw [hPP] at t1 t2 ⊢
 obtain ⟨y0, y1⟩ := PP
 simp only at t1 t2
 have e0 := hk.cell (5 + (19 + x * 2))
 have e1 := hk.cell (5 + (19 + x * 2 + 1))
 rw [shc_log _ (by omega) h8, t1] at e0
 rw [shc_log _ (by omega) h8, t2] at e1
 rw [show 5 + (19 + x * 2) = 24 + x * 2 by omega] at e0
 rw [show 5 + (19 + x * 2 + 1) = 24 + x * 2 + 1 by omega] at e1
 have lk := hk.lt
 have hx0 : (0 : Int) ≤ (x : Int) := by omega
 have hx8 : (x : Int) < 8 := by omega
 have hd : decide ((x : Int) < 0) = false := decide_eq_false (by omega)
 have hd2 : decide ((7 : Int) < (x : Int)) = false := decide_eq_false (by omega)
 have hb := (Below.refl w.heap.size w).alloc (Nat.le_refl _) (.cells #[.int .i64 y0, .int .i64 y1] 74)
 clear t1 t2 hPP
 go_enter Try.func49, Try.ntmps49
 go_wp2_with fail
 exact bodyPost_ret (v := .tuple #[.agg #[.int .i64 y0, .int .i64 y1], .int .i64 0]) (by simp [results, Try.results49, go_sem]) rfl ⟨rfl, hb⟩

theorem addG_none (s : Sh) (r : Rv) : addG s none r = if nextE s.log s.text.size r = 0 then addS s r else s := by
 unfold addG
 split
 · rfl
 · rfl
theorem fill_a : nextE shN.log shN.text.size (1, 1, [(2, 0, ⟨#[97]⟩)]) = 0 := by decide
end Go.Proofs.Ytokngfinnieccaa
