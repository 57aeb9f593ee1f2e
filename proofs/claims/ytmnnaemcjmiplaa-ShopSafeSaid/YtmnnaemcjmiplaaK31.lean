/- The archive with its moves: Add, Keep, Step, Sync keep what always holds (pure). Step, Keep of an archive in memory, whatever its state. Contracts of shop.Sync, shop.Safe, shop.Last. -/
import Derived.Test.YtmnnaemcjmiplaaK30
namespace Go.Proofs.Ytmnnaemcjmiplaa
open Go.ChangeShapes Go.WideShapes Go.RowKit
set_option linter.unusedVariables false
set_option linter.unusedSimpArgs false
set_option maxRecDepth 100000
set_option maxHeartbeats 4000000

theorem ShI.new : ShI shN none 1 0 tz := by
  refine ⟨⟨⟨rfl, by decide, by decide, by decide, by decide⟩, rfl, rfl, rfl, trivial, rfl, rfl, rfl⟩, by decide, by decide, ⟨[], [], 0, rfl, ?_, Nat.le_refl _, ?_, by decide⟩, .inr ⟨rfl, rfl, rfl⟩, by decide⟩
  · show (hdB 1 0 tz ⟨#[]⟩ ++ doneT).data.toList = flat (SF 1 0 tz ⟨#[]⟩ [] (some []))
    rw [SF_done, flat_app, bs_append, hdB_flat, doneT_flat]
  · show ((hdB 1 0 tz ⟨#[]⟩ ++ doneT).size : Int) = ((flat (SF 1 0 tz ⟨#[]⟩ [] (some []))).length : Nat)
    rw [SF_done, flat_app, ← hdB_flat, ← doneT_flat, ← bs_append]
    rfl
theorem txt_app (l : List Rv) (r : Rv) (s : ByteArray) (k : Nat) (hk : k ≤ l.length) : txt s (l ++ [r]) k = txt s l k := by
  have h := txt_take (l ++ [r]) s l.length k hk
  rw [List.take_left'] at h
  · exact h.symm
  · rfl
theorem CurI.add {x : Slt} {l : Lg} {g b : Nat} {tN : List (Nat × Nat)} {safe : Int} (h : CurI x l g b tN safe) (r : Rv) : CurI (x.1 ++ frB r, x.2) (addL l r) g b tN safe := by
  obtain ⟨r1, r2, j0, e1, e2, e3, e4, e5⟩ := h
  refine ⟨r1, r2 ++ [r], j0, ?_, ?_, ?_, ?_, e5⟩
  · show l.revs ++ [r] = _
    rw [e1, List.append_assoc]
  · show (x.1 ++ frB r).data.toList = flat (SF g b tN l.text r1 (some (r2 ++ [r])))
    rw [SF_snoc2, flat_app, bs_append, e2, frB_flat]
  · simp; omega
  · rw [List.take_append_of_le_length e3]; exact e4
section
variable {s : Sh} {m : Option Mv} {g b : Nat} {tN : List (Nat × Nat)}
theorem ShI.put_ok (h : ShI s m g b tN) (i : Nat) (hi : i ≤ 1) {t : ByteArray} (ht : t.size ≤ 700000) : (slotOf s i).1.size + t.size ≤ 1048576 := by have := (h.sz i hi).1; omega
/-- a second look behind a put -/
theorem ShI.look_put (h : ShI s m g b tN) (i j : Nat) (hi : i ≤ 1) (hj : j ≤ 1) {t : ByteArray} (ht : t.size ≤ 5000) : dlook (putS s i t).d0 (putS s i t).d1 (j : Int) = 0 := by
  have hp := fun j hj => slot_put s i j t hi hj (h.put_ok i hi (by omega))
  have key : ∀ j, j ≤ 1 → (slotOf (putS s i t) j).1.size ≤ 310000 ∧ 0 ≤ (slotOf (putS s i t) j).2 ∧ (slotOf (putS s i t) j).2 ≤ ((slotOf (putS s i t) j).1.size : Int) := fun j hj => by
    rw [hp j hj]
    have h1 := h.sz j hj
    have h2 := h.sz i hi
    unfold SzI at h1 h2
    split
    · simp only [ByteArray.size_append]; omega
    · omega
  have k0 := key 0 (by omega)
  have k1 := key 1 (by omega)
  have e0 : sbad (putS s i t).d0 = 0 := sbad_ok (by have := k0.1; show (slotOf (putS s i t) 0).1.size ≤ _; omega) k0.2.1 k0.2.2
  have e1 : sbad (putS s i t).d1 = 0 := sbad_ok (by have := k1.1; show (slotOf (putS s i t) 1).1.size ≤ _; omega) k1.2.1 k1.2.2
  unfold dlook dchk
  rw [e0, e1]
  rw [if_neg (by simp), if_neg (by omega)]
theorem tabK_add {l : Lg} {r : Rv} {k : Nat} (hk : k ≤ l.revs.length) : tabK (addL l r) k = tabK l k := by
  unfold tabK
  show natT (tblF l.base l.first ((l.revs ++ [r]).take k)) = _
  rw [List.take_append_of_le_length hk]
theorem ShI.add (h : ShI s m g b tN) (r : Rv) : ShI (addG s m r) m g b tN := by
  unfold addG
  split
  case isFalse => exact h
  rename_i hn
  have hone := (next_len hn).1
  have hfb := frB_size hone
  have hl := h.log.add hn
  have ha := h.at1
  have hsf : s.safe ≤ (addL s.log r).base + ((addL s.log r).revs.length : Int) := by
    have := h.sf
    show s.safe ≤ s.log.base + ((s.log.revs ++ [r]).length : Int)
    rw [List.length_append, List.length_singleton]
    omega
  have hp := fun j hj => slot_put s s.at_ j (frB r) h.at1 hj (h.put_ok s.at_ h.at1 (by omega))
  split
  · rename_i hwh
    cases m with
    | none => simp [whM] at hwh
    | some v =>
      obtain ⟨fl, cp, wh⟩ := v
      obtain ⟨ho, k, e1, hk, hx⟩ := h.oth
      have hwh : wh = true := hwh
      rcases hx with ⟨_, e, _⟩ | ⟨c, _, e, _⟩ | ⟨c, r1, r2, j0, ec, ec2, ew, d1, d2, d3, d4, d5⟩
      · rw [e] at hwh; cases hwh
      · rw [e] at hwh; cases hwh
      · have hz2 : (slotOf (putS s s.at_ (frB r)) (1 - s.at_)).1.size + (frB r).size ≤ 1048576 := by
          rw [hp (1 - s.at_) (by omega), if_neg (by omega)]
          exact h.put_ok _ (by omega) (by omega)
        have hq := fun j hj => slot_put (putS s s.at_ (frB r)) (1 - s.at_) j (frB r) (by omega) hj hz2
        refine ⟨hl, h.at1, h.g1, ?_, ?_, hsf⟩
        · show CurI (slotOf (putS (putS s s.at_ (frB r)) ((1 - s.at_ : Nat) : Int) (frB r)) s.at_) (addL s.log r) g b tN s.safe
          rw [hq s.at_ h.at1, if_neg (by omega), hp s.at_ h.at1, if_pos rfl]
          exact h.cur.add r
        · show OthI (slotOf (putS (putS s s.at_ (frB r)) ((1 - s.at_ : Nat) : Int) (frB r)) (1 - s.at_)) (addL s.log r) s.safe s.old (some (fl, cp, wh)) g b
          rw [hq _ (by omega), if_pos rfl, hp _ (by omega), if_neg (by omega)]
          refine ⟨ho, k, e1, ?_, .inr (.inr ⟨c, r1, r2 ++ [r], j0, ec, ec2, ew, ?_, ?_, ?_, ?_, d5⟩)⟩
          · show k ≤ (s.log.revs ++ [r]).length
            simp; omega
          · show (s.log.revs ++ [r]).drop k = _
            rw [List.drop_append_of_le_length hk, d1, List.append_assoc]
          · show ((slotOf s (1 - s.at_)).1 ++ frB r).data.toList = flat (SF (g + 1) (b + k) (tabK (addL s.log r) k) (txt s.log.text (s.log.revs ++ [r]) k) r1 (some (r2 ++ [r])))
            rw [tabK_add hk, txt_app _ _ _ _ hk, SF_snoc2, flat_app, bs_append, d2, frB_flat]
          · simp; omega
          · show ((slotOf s (1 - s.at_)).2 = 0 ∧ j0 = 0) ∨ (slotOf s (1 - s.at_)).2 = ((flat (SF (g + 1) (b + k) (tabK (addL s.log r) k) (txt s.log.text (s.log.revs ++ [r]) k) r1 (some ((r2 ++ [r]).take j0)))).length : Nat)
            rw [tabK_add hk, txt_app _ _ _ _ hk, List.take_append_of_le_length d3]
            exact d4
  · rename_i hwh
    refine ⟨hl, h.at1, h.g1, ?_, ?_, hsf⟩
    · show CurI (slotOf (putS s s.at_ (frB r)) s.at_) (addL s.log r) g b tN s.safe
      rw [hp s.at_ h.at1, if_pos rfl]
      exact h.cur.add r
    · show OthI (slotOf (putS s s.at_ (frB r)) (1 - s.at_)) (addL s.log r) s.safe s.old m g b
      rw [hp _ (by omega), if_neg (by omega)]
      have ho := h.oth
      cases m with
      | none => exact ho
      | some v =>
        obtain ⟨fl, cp, wh⟩ := v
        obtain ⟨ho, k, e1, hk, hx⟩ := ho
        refine ⟨ho, k, e1, ?_, ?_⟩
        · show k ≤ (s.log.revs ++ [r]).length
          simp; omega
        · rcases hx with hx | ⟨c, c1, c2, c3, c4, c5⟩ | ⟨c, r1, r2, j0, ec, ec2, ew, _⟩
          · exact .inl hx
          · refine .inr (.inl ⟨c, c1, c2, ?_, ?_, c5⟩)
            · show k + c ≤ (s.log.revs ++ [r]).length
              simp; omega
            · show (slotOf s (1 - s.at_)).1.data.toList = flat (SF (g + 1) (b + k) (tabK (addL s.log r) k) (txt s.log.text (s.log.revs ++ [r]) k) (((s.log.revs ++ [r]).drop k).take c) none)
              rw [tabK_add hk, txt_app _ _ _ _ hk, List.drop_append_of_le_length hk, List.take_append_of_le_length (by rw [List.length_drop]; omega)]
              exact c4
          · exact absurd ew hwh
theorem ShI.keep (h : ShI s none g b tN) (ho : s.old = false) (fl : Int) (k : Nat) (hf : fl = s.log.base + (k : Int)) (hk : k ≤ s.log.revs.length) : ShI s (some (fl, -1, false)) g b tN := by
  refine ⟨h.log, h.at1, h.g1, h.cur, ⟨ho, k, by rw [hf, h.log.eb], hk, .inl ⟨rfl, rfl, ?_⟩⟩, h.sf⟩
  rcases h.oth with ⟨e, _⟩ | ⟨_, e⟩
  · rw [ho] at e; cases e
  · exact e
/-- the old slot is cleared -/
theorem ShI.clear (h : ShI s none g b tN) : ShI { trimSh s ((1 - s.at_ : Nat) : Int) 0 with old := false } none g b tN := by
  have ha := h.at1
  refine ⟨h.log, h.at1, h.g1, ?_, .inr ⟨rfl, ?_⟩, h.sf⟩
  · show CurI (slotOf (trimSh s ((1 - s.at_ : Nat) : Int) 0) s.at_) s.log g b tN s.safe
    rw [slot_trim s _ _ _ (by omega) h.at1, if_neg (by omega)]
    exact h.cur
  · show Emp (slotOf (trimSh s ((1 - s.at_ : Nat) : Int) 0) (1 - s.at_))
    rw [slot_trim s _ _ _ (by omega) (by omega), if_pos rfl]
    exact trim_emp h.szo
theorem ShI.look_trim (h : ShI s m g b tN) : dlook (trimSh s ((1 - s.at_ : Nat) : Int) 0).d0 (trimSh s ((1 - s.at_ : Nat) : Int) 0).d1 ((1 - s.at_ : Nat) : Int) = 0 := by
  have ha := h.at1
  have key : ∀ j, j ≤ 1 → SzI (slotOf (trimSh s ((1 - s.at_ : Nat) : Int) 0) j) := fun j hj => by
    rw [slot_trim s _ _ _ (by omega) hj]
    split
    · obtain ⟨a, b⟩ := trim_emp (h.sz (1 - s.at_) (by omega))
      exact ⟨by omega, by omega, by omega⟩
    · exact h.sz j hj
  exact look_of (key 0 (by omega)) (key 1 (by omega)) _ (by omega)
theorem hdB_size {g b : Nat} {t : List (Nat × Nat)} {tx : ByteArray} (h : HdI g b t tx) : (hdB g b t tx).size ≤ 610 := by
  have := SF_size h [] none (fun r hr => by simp at hr) (fun l e => by simp at e)
  rw [bs_sz (hdB_flat g b t tx)]
  simpa using this
/-- the head of a move -/
theorem ShI.head {fl cp : Int} {wh : Bool} (h : ShI s (some (fl, cp, wh)) g b tN) (hc : cp < 0) : ∃ k : Nat, fl = (b : Int) + (k : Int) ∧ k ≤ s.log.revs.length ∧ cp = -1 ∧ wh = false ∧ s.old = false ∧
    ShI (putS (trimSh s ((1 - s.at_ : Nat) : Int) 0) ((1 - s.at_ : Nat) : Int) (hdB (g + 1) (b + k) (tabK s.log k) (txt s.log.text s.log.revs k))) (some (fl, 0, false)) g b tN := by
  have ha := h.at1
  obtain ⟨ho, k, e1, hk, hx⟩ := h.oth
  rcases hx with ⟨c1, c2, c3⟩ | ⟨c, c1, _⟩ | ⟨c, r1, r2, j0, c1, _⟩
  · refine ⟨k, e1, hk, c1, c2, ho, ?_⟩
    have hd := hdB_size (h.log.hdK k hk h.g1)
    have ht := fun j hj => slot_trim s (1 - s.at_) j 0 (by omega) hj
    have hz : (slotOf (trimSh s ((1 - s.at_ : Nat) : Int) 0) (1 - s.at_)).1.size + (hdB (g + 1) (b + k) (tabK s.log k) (txt s.log.text s.log.revs k)).size ≤ 1048576 := by
      rw [ht _ (by omega), if_pos rfl]
      have := (trim_emp h.szo).1
      omega
    have hp := fun j hj => slot_put (trimSh s ((1 - s.at_ : Nat) : Int) 0) (1 - s.at_) j (hdB (g + 1) (b + k) (tabK s.log k) (txt s.log.text s.log.revs k)) (by omega) hj hz
    refine ⟨h.log, h.at1, h.g1, ?_, ⟨ho, k, e1, hk, .inr (.inl ⟨0, rfl, rfl, (show k + 0 ≤ s.log.revs.length by omega), ?_, ?_⟩)⟩, h.sf⟩
    · show CurI (slotOf (putS (trimSh s ((1 - s.at_ : Nat) : Int) 0) ((1 - s.at_ : Nat) : Int) _) s.at_) s.log g b tN s.safe
      rw [hp s.at_ h.at1, if_neg (by omega), ht s.at_ h.at1, if_neg (by omega)]
      exact h.cur
    · show (slotOf (putS (trimSh s ((1 - s.at_ : Nat) : Int) 0) ((1 - s.at_ : Nat) : Int) _) (1 - s.at_)).1.data.toList = _
      rw [hp _ (by omega), if_pos rfl, ht _ (by omega), if_pos rfl, emp_put (trim_emp h.szo), hdB_flat, List.take_zero]
      rfl
    · show (slotOf (putS (trimSh s ((1 - s.at_ : Nat) : Int) 0) ((1 - s.at_ : Nat) : Int) _) (1 - s.at_)).2 = 0
      rw [hp _ (by omega), if_pos rfl, ht _ (by omega), if_pos rfl]
      exact (trim_emp h.szo).2
  · omega
  · omega
/-- one more revision of a move -/
theorem ShI.copy {fl cp : Int} (h : ShI s (some (fl, cp, false)) g b tN) (hc : 0 ≤ cp) (hlt : fl + cp < s.log.base + (s.log.revs.length : Int)) : ∃ (k c : Nat) (hkc : k + c < s.log.revs.length), fl = (b : Int) + (k : Int) ∧ cp = (c : Int) ∧ s.old = false ∧
    ShI (putS s ((1 - s.at_ : Nat) : Int) (frB (s.log.revs[k + c]'hkc))) (some (fl, cp + 1, false)) g b tN := by
  have ha := h.at1
  obtain ⟨ho, k, e1, hk, hx⟩ := h.oth
  rcases hx with ⟨c1, _⟩ | ⟨c, c1, c2, c3, c4, c5⟩ | ⟨c, r1, r2, j0, c1, _, c2, _⟩
  · omega
  · have hkc : k + c < s.log.revs.length := by rw [h.log.eb] at hlt; omega
    refine ⟨k, c, hkc, e1, c1, ho, ?_⟩
    have hone := h.log.one (s.log.revs[k + c]'hkc) (List.getElem_mem hkc)
    have hfb := frB_size hone
    have hp := fun j hj => slot_put s (1 - s.at_) j (frB (s.log.revs[k + c]'hkc)) (by omega) hj (h.put_ok _ (by omega) (by omega))
    have hdc : (s.log.revs.drop k)[c]'(by rw [List.length_drop]; omega) = s.log.revs[k + c]'hkc := by simp
    refine ⟨h.log, h.at1, h.g1, ?_, ⟨ho, k, e1, hk, .inr (.inl ⟨c + 1, by omega, rfl, (show k + (c + 1) ≤ s.log.revs.length by omega), ?_, ?_⟩)⟩, h.sf⟩
    · show CurI (slotOf (putS s ((1 - s.at_ : Nat) : Int) _) s.at_) s.log g b tN s.safe
      rw [hp s.at_ h.at1, if_neg (by omega)]
      exact h.cur
    · show (slotOf (putS s ((1 - s.at_ : Nat) : Int) _) (1 - s.at_)).1.data.toList = flat (SF (g + 1) (b + k) (tabK s.log k) (txt s.log.text s.log.revs k) ((s.log.revs.drop k).take (c + 1)) none)
      rw [hp _ (by omega), if_pos rfl, List.take_succ_eq_append_getElem (by rw [List.length_drop]; omega), SF_snoc1, flat_app, hdc]
      simp only
      rw [bs_append, c4, frB_flat]
    · show (slotOf (putS s ((1 - s.at_ : Nat) : Int) _) (1 - s.at_)).2 = 0
      rw [hp _ (by omega), if_pos rfl]
      exact c5
  · cases c2
/-- a move is whole -/
theorem ShI.done {fl cp : Int} (h : ShI s (some (fl, cp, false)) g b tN) (hc : 0 ≤ cp) (hlt : ¬ fl + cp < s.log.base + (s.log.revs.length : Int)) : ∃ (k c : Nat), k + c = s.log.revs.length ∧ fl = (b : Int) + (k : Int) ∧ cp = (c : Int) ∧ s.old = false ∧
    ShI (putS s ((1 - s.at_ : Nat) : Int) doneT) (some (fl, cp, true)) g b tN := by
  have ha := h.at1
  obtain ⟨ho, k, e1, hk, hx⟩ := h.oth
  have hsf := h.sf
  rcases hx with ⟨c1, _⟩ | ⟨c, c1, c2, c3, c4, c5⟩ | ⟨c, r1, r2, j0, c1, _, c2, _⟩
  · omega
  · have hkc : k + c = s.log.revs.length := by rw [h.log.eb] at hlt; omega
    refine ⟨k, c, hkc, e1, c1, ho, ?_⟩
    have hp := fun j hj => slot_put s (1 - s.at_) j doneT (by omega) hj (h.put_ok _ (by omega) (by decide))
    have hl := h.log.len
    have htk : (s.log.revs.drop k).take c = s.log.revs.drop k := List.take_of_length_le (by rw [List.length_drop]; omega)
    rw [htk] at c4
    refine ⟨h.log, h.at1, h.g1, ?_, ⟨ho, k, e1, hk, .inr (.inr ⟨c, s.log.revs.drop k, [], 0, c1, by omega, rfl, (show s.log.revs.drop k = s.log.revs.drop k ++ [] by rw [List.append_nil]), ?_, Nat.le_refl _, .inl ⟨?_, rfl⟩, ?_⟩)⟩, h.sf⟩
    · show CurI (slotOf (putS s ((1 - s.at_ : Nat) : Int) _) s.at_) s.log g b tN s.safe
      rw [hp s.at_ h.at1, if_neg (by omega)]
      exact h.cur
    · show (slotOf (putS s ((1 - s.at_ : Nat) : Int) _) (1 - s.at_)).1.data.toList = _
      rw [hp _ (by omega), if_pos rfl, SF_done, flat_app]
      simp only
      rw [bs_append, c4, doneT_flat]
      rfl
    · show (slotOf (putS s ((1 - s.at_ : Nat) : Int) _) (1 - s.at_)).2 = 0
      rw [hp _ (by omega), if_pos rfl]
      exact c5
    · show s.safe ≤ _
      rw [h.log.eb] at hsf
      rw [List.length_drop]
      omega
  · cases c2
/-- a whole move takes the log's place -/
theorem ShI.swap {fl cp : Int} (h : ShI s (some (fl, cp, true)) g b tN) (hg : g + 2 ≤ 2147483647) : ∃ (k c : Nat) (fs : List Fm) (good : Int), fl = (b : Int) + (k : Int) ∧ cp = (c : Int) ∧ c ≤ 64 ∧ k ≤ s.log.revs.length ∧ s.old = false ∧ (∀ p ∈ fs, okF p) ∧ (slotOf s (1 - s.at_)).1.data.toList = flat fs ∧ hotE fs = 0 ∧ hotL fs = mvL s.log g b k good ∧
    ShI { syncSh s ((1 - s.at_ : Nat) : Int) with log := mvL s.log g b k good, safe := (mvL s.log g b k good).base + ((mvL s.log g b k good).revs.length : Int), at_ := 1 - s.at_, old := true } none (g + 1) (b + k) (tabK s.log k) := by
  have ha := h.at1
  obtain ⟨ho, k, e1, hk, hx⟩ := h.oth
  rcases hx with ⟨_, c2, _⟩ | ⟨c, _, c2, _⟩ | ⟨c, r1, r2, j0, c1, c6, _, d1, d2, d3, d4, d5⟩
  · cases c2
  · cases c2
  · have hd := h.log.hdK k hk h.g1
    have hok := h.log.okK k hk
    rw [d1] at hok
    obtain ⟨q1, q2⟩ := hot_SF2 hd r1 r2 hok
    rw [← d1] at q2
    have hone : ∀ r ∈ s.log.revs.drop k, oneE r = 0 := fun r hr => h.log.one r (List.mem_of_mem_drop hr)
    refine ⟨k, c, SF (g + 1) (b + k) (tabK s.log k) (txt s.log.text s.log.revs k) r1 (some r2), _, e1, c1, c6, hk, ho, ?_, d2, q1, q2, ?_⟩
    · exact SF_ok hd r1 (some r2) (fun r hr => hone r (by rw [d1]; exact List.mem_append_left _ hr)) (fun l e r hr => by injection e with e; subst e; exact hone r (by rw [d1]; exact List.mem_append_right _ hr))
    · have hs := fun j hj => slot_syn s (1 - s.at_) j (by omega) hj
      have e11 : 1 - (1 - s.at_) = s.at_ := by omega
      refine ⟨h.log.move k hk h.g1 _, by show 1 - s.at_ ≤ 1; omega, by omega, ?_, .inl ⟨rfl, ?_⟩, Int.le_refl _⟩
      · show CurI (slotOf (syncSh s ((1 - s.at_ : Nat) : Int)) (1 - s.at_)) _ (g + 1) (b + k) (tabK s.log k) _
        rw [hs _ (by omega), if_pos rfl]
        refine ⟨r1, r2, r2.length, d1, d2, Nat.le_refl _, ?_, ?_⟩
        · rw [List.take_length]
          simp only
          rw [bs_sz d2]
          rfl
        · show ((b + k : Nat) : Int) + ((s.log.revs.drop k).length : Int) ≤ _
          rw [d1, List.length_append]
          omega
      · show OldI (slotOf (syncSh s ((1 - s.at_ : Nat) : Int)) (1 - (1 - s.at_))) (g + 1)
        rw [hs _ (by omega), if_neg (by omega), e11]
        have hz := h.szc
        obtain ⟨p1, p2, i0, f1, f2, f3, f4, f5⟩ := h.cur
        have hl := h.log.len
        refine ⟨g, b, tN, s.log.text, p1, some p2, h.log.hd, fun r hr => h.log.one r (by rw [f1]; exact List.mem_append_left _ hr), fun l e r hr => by injection e with e; subst e; exact h.log.one r (by rw [f1]; exact List.mem_append_right _ hr), f2, ?_, by omega, hz.2.1, hz.2.2, hz.1⟩
        rw [SF_len]
        rw [f1, List.length_append] at hl
        simp only
        omega
/-- what is synced -/
def syncG (s : Sh) (m : Option Mv) : Sh := { (if whM m = true then syncSh (syncSh s ((1 - s.at_ : Nat) : Int)) s.at_ else syncSh s s.at_) with safe := s.log.base + (s.log.revs.length : Int) }
theorem ShI.sync (h : ShI s m g b tN) : ShI (syncG s m) m g b tN := by
  have ha := h.at1
  have hcur : CurI ((slotOf s s.at_).1, ((slotOf s s.at_).1.size : Int)) s.log g b tN (s.log.base + (s.log.revs.length : Int)) := by
    obtain ⟨p1, p2, i0, f1, f2, f3, f4, f5⟩ := h.cur
    refine ⟨p1, p2, p2.length, f1, f2, Nat.le_refl _, ?_, ?_⟩
    · rw [List.take_length]
      simp only
      rw [bs_sz f2]
    · rw [h.log.eb, f1, List.length_append]
      omega
  unfold syncG
  split
  · rename_i hwh
    have hs := fun j hj => slot_syn s (1 - s.at_) j (by omega) hj
    have hq := fun j hj => slot_syn (syncSh s ((1 - s.at_ : Nat) : Int)) s.at_ j ha hj
    refine ⟨h.log, h.at1, h.g1, ?_, ?_, Int.le_refl _⟩
    · show CurI (slotOf (syncSh (syncSh s ((1 - s.at_ : Nat) : Int)) s.at_) s.at_) s.log g b tN _
      rw [hq s.at_ ha, if_pos rfl, hs s.at_ ha, if_neg (by omega)]
      exact hcur
    · show OthI (slotOf (syncSh (syncSh s ((1 - s.at_ : Nat) : Int)) s.at_) (1 - s.at_)) s.log (s.log.base + (s.log.revs.length : Int)) s.old m g b
      rw [hq _ (by omega), if_neg (by omega), hs _ (by omega), if_pos rfl]
      cases m with
      | none => simp [whM] at hwh
      | some v =>
        obtain ⟨fl, cp, wh⟩ := v
        have hwh : wh = true := hwh
        obtain ⟨ho, k, e1, hk, hx⟩ := h.oth
        refine ⟨ho, k, e1, hk, ?_⟩
        rcases hx with ⟨_, e, _⟩ | ⟨c, _, e, _⟩ | ⟨c, r1, r2, j0, ec, ec2, ew, d1, d2, d3, d4, d5⟩
        · rw [e] at hwh; cases hwh
        · rw [e] at hwh; cases hwh
        · refine .inr (.inr ⟨c, r1, r2, r2.length, ec, ec2, ew, d1, d2, Nat.le_refl _, .inr ?_, ?_⟩)
          · rw [List.take_length]
            simp only
            rw [bs_sz d2]
          · have := congrArg List.length d1
            rw [List.length_append, List.length_drop] at this
            rw [h.log.eb]
            omega
  · rename_i hwh
    have hq := fun j hj => slot_syn s s.at_ j ha hj
    refine ⟨h.log, h.at1, h.g1, ?_, ?_, Int.le_refl _⟩
    · show CurI (slotOf (syncSh s s.at_) s.at_) s.log g b tN _
      rw [hq s.at_ ha, if_pos rfl]
      exact hcur
    · show OthI (slotOf (syncSh s s.at_) (1 - s.at_)) s.log (s.log.base + (s.log.revs.length : Int)) s.old m g b
      rw [hq _ (by omega), if_neg (by omega)]
      have ho := h.oth
      cases m with
      | none => exact ho
      | some v =>
        obtain ⟨fl, cp, wh⟩ := v
        obtain ⟨ho, k, e1, hk, hx⟩ := ho
        refine ⟨ho, k, e1, hk, ?_⟩
        rcases hx with hx | hx | ⟨c, r1, r2, j0, ec, ec2, ew, _⟩
        · exact .inl hx
        · exact .inr (.inl hx)
        · exact absurd ew hwh
end
end Go.Proofs.Ytmnnaemcjmiplaa
namespace Go.Proofs.Ytmnnaemcjmiplaa
open Go.ChangeShapes Go.WideShapes Go.RowKit
set_option linter.unusedVariables false
set_option linter.unusedSimpArgs false
set_option maxRecDepth 100000
set_option maxHeartbeats 4000000

/-- an archive in memory, of which what always holds is so -/
structure ShG (w : World) (F : Nat → Prop) (q : Nat) (s : Sh) (m : Option Mv) (g b : Nat) (tN : List (Nat × Nat)) : Prop where
  mem : ShM w F q s m
  inv : ShI s m g b tN
/-- what a step makes of an archive -/
def StepR (s : Sh) (m : Option Mv) (g b : Nat) (s' : Sh) (m' : Option Mv) (g' b' : Nat) : Prop :=
  (m = none ∧ s.old = true ∧ m' = none ∧ s'.old = false ∧ s'.log = s.log ∧ s'.text = s.text ∧ s'.safe = s.safe ∧ g' = g ∧ b' = b) ∨
  (∃ fl cp wh, m = some (fl, cp, wh) ∧ s'.log = s.log ∧ s'.text = s.text ∧ s'.safe = s.safe ∧ s'.old = false ∧ g' = g ∧ b' = b ∧
    ((cp = -1 ∧ wh = false ∧ m' = some (fl, 0, false)) ∨ (0 ≤ cp ∧ cp + 1 ≤ 64 ∧ wh = false ∧ m' = some (fl, cp + 1, false)) ∨ (0 ≤ cp ∧ cp ≤ 64 ∧ wh = false ∧ m' = some (fl, cp, true)))) ∨
  (∃ fl cp k good, m = some (fl, cp, true) ∧ 0 ≤ cp ∧ cp ≤ 64 ∧ fl = (b : Int) + (k : Nat) ∧ k ≤ s.log.revs.length ∧ m' = none ∧ s'.old = true ∧ s'.log = mvL s.log g b k good ∧ s'.text = s.text ∧ s'.safe = s'.log.base + (s'.log.revs.length : Int) ∧ g' = g + 1 ∧ b' = b + k)
theorem ShM.back {w w' : World} {F : Nat → Prop} {q : Nat} {s' : Sh} {sl : Sl} {ss : List Sl} {mp : Option Addr} {m' : Option Mv} (hF : F q) (hlt : ∀ k, F k → k < w.heap.size) (hr : ∀ k, (Value.slice sl.1 sl.2.1 sl.2.2).ownBlock = some k → F k) (hs : ∀ d ∈ ss, ∀ k, (Value.slice d.1 d.2.1 d.2.2).ownBlock = some k → F k)
    (hz : w.heap.size ≤ w'.heap.size) (h : ShR w' q s' sl ss mp) (hm : MvM w' (Go.Proofs.Ytmnnaemcjmiplaa.grow F w w') m' mp) : ShM w' (Go.Proofs.Ytmnnaemcjmiplaa.grow F w w') q s' m' :=
  ⟨.inl hF, fun k hk => hk.elim (fun hk => Nat.lt_of_lt_of_le (hlt k hk) hz) (·.2), sl, ss, mp, h.k, h.v, fun k hk => .inl (hr k hk), fun d hd k hk => .inl (hs d hd k hk), hm⟩
theorem sstep_no (q : Nat) (s : Sh) (F : Nat → Prop) (g b : Nat) (tN : List (Nat × Nat)) (w : World) (h : ShG w F q s none g b tN) (ho : s.old = false) :
    Calls Try.prog 26 #[.pointer (some ⟨q, 0, none⟩)] w fun e w' => e = .returned (.bool false) ∧ Below w.heap.size w w' := by
  obtain ⟨sl, ss, mp, hk, hv, hr, hs, hm⟩ := h.mem.ex
  obtain rfl : mp = none := hm
  exact sstep_none q s sl ss w ⟨hk, hv⟩ h.inv.log.hg.l8 h.inv.at1 ho
theorem sstep_M (q : Nat) (s : Sh) (m : Option Mv) (F : Nat → Prop) (g b : Nat) (tN : List (Nat × Nat)) (w : World) (h : ShG w F q s m g b tN) (hg2 : g + 2 ≤ 2147483647) (hgo : m ≠ none ∨ s.old = true) :
    Calls Try.prog 26 #[.pointer (some ⟨q, 0, none⟩)] w fun e w' => e = .returned (.bool true) ∧ ∃ s' m' g' b' tN', ShG w' (grow F w w') q s' m' g' b' tN' ∧ Only w w' F ∧ StepR s m g b s' m' g' b' := by
  obtain ⟨hM, hI⟩ := h
  obtain ⟨sl, ss, mp, hk, hv, hr, hs, hm⟩ := hM.ex
  have hR : ShR w q s sl ss mp := ⟨hk, hv⟩
  have h8 := hI.log.hg.l8
  have hb0 := hI.log.hg.base0
  have hb1 := hI.log.hg.base1
  have hlen := hI.log.len
  have hnum := hI.log.num
  have ha := hI.at1
  have hl := hI.look (1 - s.at_) (by omega)
  cases m with
  | none =>
    obtain rfl : mp = none := hm
    have ho : s.old = true := by rcases hgo with h | h; exact absurd rfl h; exact h
    refine (sstep_old q s sl ss w hR h8 ha ho hl).mono ?_
    rintro e w' ⟨rfl, hR', oo⟩
    exact ⟨rfl, _, none, g, b, tN, ⟨ShM.back hM.fq hM.lt hr hs oo.2.2.2.1 hR' rfl, hI.clear⟩, oo.mono fun k _ e => e ▸ hM.fq, .inl ⟨rfl, ho, rfl, rfl, rfl, rfl, rfl, rfl, rfl⟩⟩
  | some v =>
    obtain ⟨fl, cp, wh⟩ := v
    obtain ⟨gm, em, hfg, hkg⟩ := hm
    subst em
    have hof : ∀ {w' : World}, Only w w' (fun k => k = q ∨ k = gm) → Only w w' F := fun oo => oo.mono fun k _ e => by
      rcases e with rfl | rfl
      · exact hM.fq
      · exact hfg
    have hold : s.old = false := hI.oth.1
    by_cases hc : cp < 0
    · obtain ⟨k, e1, hk', c1, c2, ho, hI'⟩ := hI.head hc
      subst c1 c2
      obtain rfl : fl = ((b + k : Nat) : Int) := by omega
      refine (sstep_head q s sl ss gm (b + k) (-1) false k g (tabK s.log k) w hR hkg h8 ha hc (by rw [hI.log.eb]; omega) hk' hI.log.eg (by omega) hb0 hb1 (by omega) hlen hI.log.txe (hI.log.tab k hk').symm (hI.log.hdK k hk' hI.g1).t hl hI.look_trim).mono ?_
      rintro e w' ⟨rfl, hR', hkg', oo⟩
      exact ⟨rfl, _, some (((b + k : Nat) : Int), 0, false), g, b, tN, ⟨ShM.back hM.fq hM.lt hr hs oo.2.2.2.1 hR' ⟨gm, rfl, .inl hfg, hkg'⟩, hI'⟩, hof oo, .inr (.inl ⟨_, _, _, rfl, rfl, rfl, rfl, hold, rfl, rfl, .inl ⟨rfl, rfl, rfl⟩⟩)⟩
    · cases wh with
      | false =>
        by_cases hlt : fl + cp < s.log.base + (s.log.revs.length : Int)
        · obtain ⟨k, c, hkc, e1, e2, ho, hI'⟩ := hI.copy (by omega) hlt
          obtain rfl : fl = ((b + k : Nat) : Int) := by omega
          subst e2
          obtain ⟨⟨ra, rb, d⟩, hrk⟩ : ∃ r, s.log.revs[k + c] = r := ⟨_, rfl⟩
          rw [hrk] at hI'
          refine (sstep_copy q s sl ss gm (b + k) c (k + c) ra rb d w hR hkg h8 ha (by rw [hI.log.eb]; omega) hkc hrk hb0 hb1 (by omega) hlen (by omega) (by rw [← hrk]; exact hI.log.one _ (List.getElem_mem hkc)) hl).mono ?_
          rintro e w' ⟨rfl, hR', hkg', oo⟩
          have hcc : ((c + 1 : Nat) : Int) = (c : Int) + 1 := by omega
          rw [hcc] at hkg'
          exact ⟨rfl, _, some (((b + k : Nat) : Int), (c : Int) + 1, false), g, b, tN, ⟨ShM.back hM.fq hM.lt hr hs oo.2.2.2.1 hR' ⟨gm, rfl, .inl hfg, hkg'⟩, hI'⟩, hof oo, .inr (.inl ⟨_, _, _, rfl, rfl, rfl, rfl, hold, rfl, rfl, .inr (.inl ⟨by omega, by omega, rfl, rfl⟩)⟩)⟩
        · obtain ⟨k, c, hkc, e1, e2, ho, hI'⟩ := hI.done (by omega) hlt
          obtain rfl : fl = ((b + k : Nat) : Int) := by omega
          subst e2
          refine (sstep_done q s sl ss gm (b + k) c w hR hkg h8 ha (by rw [hI.log.eb]; omega) hb0 hb1 (by omega) hlen (by omega) hl).mono ?_
          rintro e w' ⟨rfl, hR', hkg', oo⟩
          exact ⟨rfl, _, some (((b + k : Nat) : Int), (c : Int), true), g, b, tN, ⟨ShM.back hM.fq hM.lt hr hs oo.2.2.2.1 hR' ⟨gm, rfl, .inl hfg, hkg'⟩, hI'⟩, hof oo, .inr (.inl ⟨_, _, _, rfl, rfl, rfl, rfl, hold, rfl, rfl, .inr (.inr ⟨by omega, by omega, rfl, rfl⟩)⟩)⟩
      | true =>
        obtain ⟨k, c, fs, good, e1, e2, hc64, hk', ho, hok, hfl, hE, hL, hI'⟩ := hI.swap hg2
        obtain rfl : fl = ((b + k : Nat) : Int) := by omega
        subst e2
        have hH := hI'.log.hg
        refine (sstep_swap q s sl ss gm (b + k) (c : Int) fs (mvL s.log g b k good) w hR hkg h8 ha (by omega) hok hfl hE hL hH.l8 hH.base0 hH.base1 (Nat.le_trans hH.len (by decide)) hl).mono ?_
        rintro e w' ⟨rfl, sl2, ss2, hR', hr2, hs2, oo⟩
        refine ⟨rfl, _, none, g + 1, b + k, tabK s.log k, ⟨⟨.inl hM.fq, fun j hj => hj.elim (fun hj => Nat.lt_of_lt_of_le (hM.lt j hj) oo.2.2.2.1) (·.2), sl2, ss2, none, hR'.k, hR'.v, fun j hj => .inr ⟨hr2 j hj, own_lt hR'.v.row j hj⟩, fun d hd j hj => .inr ⟨hs2 d hd j hj, ?_⟩, rfl⟩, hI'⟩, oo.mono fun k _ e => e ▸ hM.fq, .inr (.inr ⟨_, _, k, good, rfl, by omega, by omega, by omega, hk', rfl, rfl, rfl, rfl, rfl, rfl, rfl⟩)⟩
        obtain ⟨i, hi, rfl⟩ := List.getElem_of_mem hd
        exact own_lt (hR'.v.ds i (by rw [← hR'.v.len]; exact hi)).1 j hj
theorem skeep_M (q : Nat) (s : Sh) (F : Nat → Prop) (g b : Nat) (tN : List (Nat × Nat)) (r : Int) (k : Nat) (w : World) (h : ShG w F q s none g b tN) (ho : s.old = false) (hrk : r = s.log.base + (k : Int)) (hk : k ≤ s.log.revs.length) :
    Calls Try.prog 24 #[.pointer (some ⟨q, 0, none⟩), .int .i64 r] w fun e w' => e = .returned (.int .i64 0) ∧ ShG w' (grow F w w') q s (some (r, -1, false)) g b tN ∧ Only w w' F := by
  obtain ⟨hM, hI⟩ := h
  obtain ⟨sl, ss, mp, hk', hv, hr, hs, hm⟩ := hM.ex
  obtain rfl : mp = none := hm
  have hR : ShR w q s sl ss none := ⟨hk', hv⟩
  have hb0 := hI.log.hg.base0
  have hb1 := hI.log.hg.base1
  have hlen := hI.log.len
  have hth : thE s.log r = 0 := by unfold thE; rw [if_neg (by omega), if_neg (by omega)]
  refine (skeep_good q s sl r w hk' hI.log.hg.l8 ho hR.len hb0 hb1 (by omega) hth).mono ?_
  rintro e w' ⟨rfl, gm, hgm, k1, km, oo⟩
  exact ⟨rfl, ⟨ShM.back hM.fq hM.lt hr hs oo.2.2.2.1 (hR.box oo k1 rfl) ⟨gm, rfl, .inr ⟨hgm, km.lt⟩, km⟩, hI.keep ho r k hrk hk⟩, oo.mono fun k _ e => e ▸ hM.fq⟩
theorem skeepno_M (q : Nat) (s : Sh) (F : Nat → Prop) (g b : Nat) (tN : List (Nat × Nat)) (r : Int) (w : World) (h : ShG w F q s none g b tN) (ho : s.old = false) (he : thE s.log r ≠ 0) :
    Calls Try.prog 24 #[.pointer (some ⟨q, 0, none⟩), .int .i64 r] w fun e w' => e = .returned (.int .i64 (thE s.log r)) ∧ Below w.heap.size w w' := by
  obtain ⟨hM, hI⟩ := h
  obtain ⟨sl, ss, mp, hk', hv, hr, hs, hm⟩ := hM.ex
  obtain rfl : mp = none := hm
  have hR : ShR w q s sl ss none := ⟨hk', hv⟩
  exact skeep_not q s sl r w hk' hI.log.hg.l8 ho hR.len hI.log.hg.base0 hI.log.hg.base1 (by have := hI.log.len; omega) he
theorem skeepbusy_M (q : Nat) (s : Sh) (m : Option Mv) (F : Nat → Prop) (g b : Nat) (tN : List (Nat × Nat)) (r : Int) (w : World) (h : ShG w F q s m g b tN) (hb : m ≠ none ∨ s.old = true) :
    Calls Try.prog 24 #[.pointer (some ⟨q, 0, none⟩), .int .i64 r] w fun e w' => e = .returned (.int .i64 13) ∧ Below w.heap.size w w' := by
  obtain ⟨hM, hI⟩ := h
  obtain ⟨sl, ss, mp, hk', hv, hr, hs, hm⟩ := hM.ex
  refine skeep_busy q s sl mp r w hk' hI.log.hg.l8 ?_
  rcases hb with hb | hb
  · left
    cases m with
    | none => exact absurd rfl hb
    | some v => obtain ⟨gm, e, _⟩ := hm; rw [e]; simp
  · exact .inr hb
theorem ShG.below {w w' : World} {F : Nat → Prop} {q : Nat} {s : Sh} {m : Option Mv} {g b : Nat} {tN : List (Nat × Nat)} (h : ShG w F q s m g b tN) (hb : Below w.heap.size w w') : ShG w' F q s m g b tN := ⟨h.mem.below hb, h.inv⟩
theorem sadd_G (q : Nat) (s : Sh) (m : Option Mv) (F : Nat → Prop) (g b : Nat) (tN : List (Nat × Nat)) (a c : Int) (d : List Pt) (A : Option Addr) (n cc : Nat) (w : World) (h : ShG w F q s m g b tN) (hd : RdP w w.heap.size A n cc d) :
    Calls Try.prog 21 #[.pointer (some ⟨q, 0, none⟩), .agg #[.int .i64 a, .int .i64 c, .slice A n cc]] w fun e w' =>
      e = .returned (.tuple #[.int .i64 (if nextE s.log s.text.size (a, c, d) = 0 then s.log.base + (s.log.revs.length + 1 : Nat) else 0), .int .i64 (nextE s.log s.text.size (a, c, d))]) ∧ ShG w' (grow F w w') q (addG s m (a, c, d)) m g b tN ∧ Only w w' F := by
  have ha := h.inv.at1
  refine (sadd_M q s m F a c d A n cc w h.mem h.inv.log.hg ha (h.inv.look _ ha) (fun _ hn => h.inv.look_put s.at_ (1 - s.at_) ha (by omega) (by have := frB_size (next_len hn).1; omega)) hd).mono ?_
  rintro e w' ⟨rfl, hM, oo⟩
  exact ⟨rfl, ⟨hM, h.inv.add _⟩, oo⟩
end Go.Proofs.Ytmnnaemcjmiplaa
namespace Go.Proofs.Ytmnnaemcjmiplaa
open Go.ChangeShapes Go.WideShapes Go.RowKit
set_option linter.unusedVariables false
set_option linter.unusedSimpArgs false
set_option maxRecDepth 100000
set_option maxHeartbeats 4000000

theorem ssync_none (q : Nat) (s : Sh) (sl : Sl) (ss : List Sl)  (w : World) (h : ShR w q s sl ss none) (h8 : Lg8 s.log) (hat : s.at_ ≤ 1) (hb0 : 0 ≤ s.log.base) (hb1 : s.log.base ≤ 2147483647) (hr : s.log.revs.length ≤ 64) (hl : dlook s.d0 s.d1 (s.at_ : Int) = 0) :
    Calls Try.prog 23 #[.pointer (some ⟨q, 0, none⟩)] w fun e w' => e = .returned (.tuple #[]) ∧ ShR w' q { syncSh s s.at_ with safe := s.log.base + (s.log.revs.length : Int) } sl ss none ∧ Only w w' (fun k => k = q) := by
  obtain ⟨AT, hAT⟩ : ∃ AT, s.at_ = AT := ⟨_, rfl⟩
  obtain ⟨OA, hOA⟩ : ∃ OA : Nat, 1 - AT = OA := ⟨_, rfl⟩
  rw [hAT] at hat
  have hwr : IntKind.i64.wrap (1 - (AT : Int)) = (OA : Int) := by rw [show 1 - (AT : Int) = (OA : Int) by omega]; exact IntWalk.i64_in _ (by omega)
  have HAT := Lib.hid hAT
  have HOA := Lib.hid hOA
  clear hAT hOA hat
  rw [HAT.out] at hl ⊢
  have HLK := hl
  clear hl
  have c4 : w.cell? ⟨q, 4, none⟩ = some (.int .i64 (AT : Int)) := (h.k.cell 4).trans (shc_at.trans (by rw [← HAT.out]))
  have c45 : w.cell? ⟨q, 45, none⟩ = some (.pointer none) := (h.k.cell 45).trans (shc_mv h8)
  have lq := h.k.lt
  have o0 := Only.refl w (fun k => k = q)
  go_enter Try.func23, Try.ntmps23
  go_upto_region 2 with (fail)
  clear c45
  have hc : Calls Try.prog 67 #[.pointer (some ⟨q, 0, none⟩), .int .i64 (AT : Int)] w fun e w' => e = .returned (.tuple #[]) ∧ Blk w' q 108 (shc (syncSh s AT) sl none) ∧ Only w w' (fun k => k = q) := ssync_any q s sl none AT w h.k HLK
  have Hcz := Lib.hid hc
  have H7 := Lib.hid h
  have O7 := Lib.hid o0
  clear hc h o0
  go_wp2_with fail
  refine Hcz.out.mono ?_
  rintro e w8 ⟨rfl, k8, o8⟩
  have h8' : ShR w8 q (syncSh s AT) sl ss none := H7.out.box o8 k8 rfl
  have oA := O7.out.trans o8
  have hh := shead_any q (syncSh s AT) sl none w8 h8'.k h8 h8'.len hb0 hb1 (by show s.log.revs.length ≤ 1000; omega)
  have Hh := Lib.hid hh
  have H8 := Lib.hid h8'
  have O8 := Lib.hid oA
  clear hh h8' oA o8 k8 Hcz H7 O7
  go_wp2_with fail
  refine Hh.out.mono ?_
  rintro e w9 ⟨rfl, hb9⟩
  have h9 := H8.out.below hb9
  have oD := O8.out.trans (Only.of_below (S := fun k => k = q) hb9)
  have s44 : w9.cell? ⟨q, 44, none⟩ = some (.int .i64 s.safe) := (h9.k.cell 44).trans (shc_safe (s := syncSh s AT) h8)
  have t44 := h9.k.frozen 44
  have lq9 := h9.k.lt
  have H9 := Lib.hid h9
  have OD := Lib.hid oD
  clear h9 oD hb9 Hh H8 O8
  go_wp2_with fail
  go_end0
  have k6 := H9.out.k.set_ 44 (.int .i64 (s.log.base + (s.log.revs.length : Int)))
  rw [shc_set44 (syncSh s AT) sl none _ h8] at k6
  exact ⟨rfl, H9.out.box (Only.setSelf _ q 44 _) k6 rfl, OD.out.trans (Only.setSelf _ q 44 _)⟩
theorem ssync_no (q : Nat) (s : Sh) (sl : Sl) (ss : List Sl) (g fl : Nat) (cp : Int) (w : World) (h : ShR w q s sl ss (some ⟨g, 0, none⟩)) (hm : Blk w g 116 #[.int .i64 fl, .int .i64 cp, .bool false]) (h8 : Lg8 s.log) (hat : s.at_ ≤ 1) (hb0 : 0 ≤ s.log.base) (hb1 : s.log.base ≤ 2147483647) (hr : s.log.revs.length ≤ 64) (hl : dlook s.d0 s.d1 (s.at_ : Int) = 0) :
    Calls Try.prog 23 #[.pointer (some ⟨q, 0, none⟩)] w fun e w' => e = .returned (.tuple #[]) ∧ ShR w' q { syncSh s s.at_ with safe := s.log.base + (s.log.revs.length : Int) } sl ss (some ⟨g, 0, none⟩) ∧ Only w w' (fun k => k = q) := by
  obtain ⟨AT, hAT⟩ : ∃ AT, s.at_ = AT := ⟨_, rfl⟩
  obtain ⟨OA, hOA⟩ : ∃ OA : Nat, 1 - AT = OA := ⟨_, rfl⟩
  rw [hAT] at hat
  have hwr : IntKind.i64.wrap (1 - (AT : Int)) = (OA : Int) := by rw [show 1 - (AT : Int) = (OA : Int) by omega]; exact IntWalk.i64_in _ (by omega)
  have HAT := Lib.hid hAT
  have HOA := Lib.hid hOA
  clear hAT hOA hat
  rw [HAT.out] at hl ⊢
  have HLK := hl
  clear hl
  have c4 : w.cell? ⟨q, 4, none⟩ = some (.int .i64 (AT : Int)) := (h.k.cell 4).trans (shc_at.trans (by rw [← HAT.out]))
  have c45 : w.cell? ⟨q, 45, none⟩ = some (.pointer (some ⟨g, 0, none⟩)) := (h.k.cell 45).trans (shc_mv h8)
  have lq := h.k.lt
  have m0 : w.cell? ⟨g, 0, none⟩ = some (.int .i64 fl) := hm.cell 0
  have m1 : w.cell? ⟨g, 1, none⟩ = some (.int .i64 cp) := hm.cell 1
  have m2 : w.cell? ⟨g, 2, none⟩ = some (.bool false) := hm.cell 2
  have lg := hm.lt
  have o0 := Only.refl w (fun k => k = q)
  go_enter Try.func23, Try.ntmps23
  go_upto_region 2 with (fail)
  clear c45 m0 m1 m2 hm
  have hc : Calls Try.prog 67 #[.pointer (some ⟨q, 0, none⟩), .int .i64 (AT : Int)] w fun e w' => e = .returned (.tuple #[]) ∧ Blk w' q 108 (shc (syncSh s AT) sl (some ⟨g, 0, none⟩)) ∧ Only w w' (fun k => k = q) := ssync_any q s sl (some ⟨g, 0, none⟩) AT w h.k HLK
  have Hcz := Lib.hid hc
  have H7 := Lib.hid h
  have O7 := Lib.hid o0
  clear hc h o0
  go_wp2_with fail
  refine Hcz.out.mono ?_
  rintro e w8 ⟨rfl, k8, o8⟩
  have h8' : ShR w8 q (syncSh s AT) sl ss (some ⟨g, 0, none⟩) := H7.out.box o8 k8 rfl
  have oA := O7.out.trans o8
  have hh := shead_any q (syncSh s AT) sl (some ⟨g, 0, none⟩) w8 h8'.k h8 h8'.len hb0 hb1 (by show s.log.revs.length ≤ 1000; omega)
  have Hh := Lib.hid hh
  have H8 := Lib.hid h8'
  have O8 := Lib.hid oA
  clear hh h8' oA o8 k8 Hcz H7 O7
  go_wp2_with fail
  refine Hh.out.mono ?_
  rintro e w9 ⟨rfl, hb9⟩
  have h9 := H8.out.below hb9
  have oD := O8.out.trans (Only.of_below (S := fun k => k = q) hb9)
  have s44 : w9.cell? ⟨q, 44, none⟩ = some (.int .i64 s.safe) := (h9.k.cell 44).trans (shc_safe (s := syncSh s AT) h8)
  have t44 := h9.k.frozen 44
  have lq9 := h9.k.lt
  have H9 := Lib.hid h9
  have OD := Lib.hid oD
  clear h9 oD hb9 Hh H8 O8
  go_wp2_with fail
  go_end0
  have k6 := H9.out.k.set_ 44 (.int .i64 (s.log.base + (s.log.revs.length : Int)))
  rw [shc_set44 (syncSh s AT) sl (some ⟨g, 0, none⟩) _ h8] at k6
  exact ⟨rfl, H9.out.box (Only.setSelf _ q 44 _) k6 rfl, OD.out.trans (Only.setSelf _ q 44 _)⟩
theorem ssync_yes (q : Nat) (s : Sh) (sl : Sl) (ss : List Sl) (g fl : Nat) (cp : Int) (w : World) (h : ShR w q s sl ss (some ⟨g, 0, none⟩)) (hm : Blk w g 116 #[.int .i64 fl, .int .i64 cp, .bool true]) (h8 : Lg8 s.log) (hat : s.at_ ≤ 1) (hb0 : 0 ≤ s.log.base) (hb1 : s.log.base ≤ 2147483647) (hr : s.log.revs.length ≤ 64) (hl : dlook s.d0 s.d1 (s.at_ : Int) = 0) (hl1 : dlook s.d0 s.d1 ((1 - s.at_ : Nat) : Int) = 0) (hl2 : dlook (syncSh s ((1 - s.at_ : Nat) : Int)).d0 (syncSh s ((1 - s.at_ : Nat) : Int)).d1 (s.at_ : Int) = 0) :
    Calls Try.prog 23 #[.pointer (some ⟨q, 0, none⟩)] w fun e w' => e = .returned (.tuple #[]) ∧ ShR w' q { syncSh (syncSh s ((1 - s.at_ : Nat) : Int)) s.at_ with safe := s.log.base + (s.log.revs.length : Int) } sl ss (some ⟨g, 0, none⟩) ∧ Only w w' (fun k => k = q) := by
  obtain ⟨AT, hAT⟩ : ∃ AT, s.at_ = AT := ⟨_, rfl⟩
  obtain ⟨OA, hOA⟩ : ∃ OA : Nat, 1 - AT = OA := ⟨_, rfl⟩
  rw [hAT] at hat
  have hwr : IntKind.i64.wrap (1 - (AT : Int)) = (OA : Int) := by rw [show 1 - (AT : Int) = (OA : Int) by omega]; exact IntWalk.i64_in _ (by omega)
  have HAT := Lib.hid hAT
  have HOA := Lib.hid hOA
  clear hAT hOA hat
  rw [HAT.out, HOA.out] at hl1 hl2 ⊢
  have HLK := hl2
  clear hl hl2
  have c4 : w.cell? ⟨q, 4, none⟩ = some (.int .i64 (AT : Int)) := (h.k.cell 4).trans (shc_at.trans (by rw [← HAT.out]))
  have c45 : w.cell? ⟨q, 45, none⟩ = some (.pointer (some ⟨g, 0, none⟩)) := (h.k.cell 45).trans (shc_mv h8)
  have lq := h.k.lt
  have m0 : w.cell? ⟨g, 0, none⟩ = some (.int .i64 fl) := hm.cell 0
  have m1 : w.cell? ⟨g, 1, none⟩ = some (.int .i64 cp) := hm.cell 1
  have m2 : w.cell? ⟨g, 2, none⟩ = some (.bool true) := hm.cell 2
  have lg := hm.lt
  have hc : Calls Try.prog 67 #[.pointer (some ⟨q, 0, none⟩), .int .i64 (OA : Int)] w fun e w' => e = .returned (.tuple #[]) ∧ Blk w' q 108 (shc (syncSh s OA) sl (some ⟨g, 0, none⟩)) ∧ Only w w' (fun k => k = q) := ssync_any q s sl (some ⟨g, 0, none⟩) OA w h.k hl1
  have Hc0 := Lib.hid hc
  have H0 := Lib.hid h
  clear hc h hl1 hm
  go_enter Try.func23, Try.ntmps23
  go_wp2_with fail
  refine Hc0.out.mono ?_
  rintro e w1 ⟨rfl, k1, o1⟩
  have h1 : ShR w1 q (syncSh s OA) sl ss (some ⟨g, 0, none⟩) := H0.out.box o1 k1 rfl
  clear c4 c45 m0 m1 m2 lg lq
  have c4 : w1.cell? ⟨q, 4, none⟩ = some (.int .i64 (AT : Int)) := (k1.cell 4).trans (shc_at.trans (by rw [← HAT.out]; rfl))
  have lq := k1.lt
  clear k1 Hc0 H0
  have hc : Calls Try.prog 67 #[.pointer (some ⟨q, 0, none⟩), .int .i64 (AT : Int)] w1 fun e w' => e = .returned (.tuple #[]) ∧ Blk w' q 108 (shc (syncSh (syncSh s OA) AT) sl (some ⟨g, 0, none⟩)) ∧ Only w1 w' (fun k => k = q) := ssync_any q (syncSh s OA) sl (some ⟨g, 0, none⟩) AT w1 h1.k HLK
  have Hcz := Lib.hid hc
  have H7 := Lib.hid h1
  have O7 := Lib.hid o1
  clear hc h1 o1
  go_wp2_with fail
  refine Hcz.out.mono ?_
  rintro e w8 ⟨rfl, k8, o8⟩
  have h8' : ShR w8 q (syncSh (syncSh s OA) AT) sl ss (some ⟨g, 0, none⟩) := H7.out.box o8 k8 rfl
  have oA := O7.out.trans o8
  have hh := shead_any q (syncSh (syncSh s OA) AT) sl (some ⟨g, 0, none⟩) w8 h8'.k h8 h8'.len hb0 hb1 (by show s.log.revs.length ≤ 1000; omega)
  have Hh := Lib.hid hh
  have H8 := Lib.hid h8'
  have O8 := Lib.hid oA
  clear hh h8' oA o8 k8 Hcz H7 O7
  go_wp2_with fail
  refine Hh.out.mono ?_
  rintro e w9 ⟨rfl, hb9⟩
  have h9 := H8.out.below hb9
  have oD := O8.out.trans (Only.of_below (S := fun k => k = q) hb9)
  have s44 : w9.cell? ⟨q, 44, none⟩ = some (.int .i64 s.safe) := (h9.k.cell 44).trans (shc_safe (s := syncSh (syncSh s OA) AT) h8)
  have t44 := h9.k.frozen 44
  have lq9 := h9.k.lt
  have H9 := Lib.hid h9
  have OD := Lib.hid oD
  clear h9 oD hb9 Hh H8 O8
  go_wp2_with fail
  go_end0
  have k6 := H9.out.k.set_ 44 (.int .i64 (s.log.base + (s.log.revs.length : Int)))
  rw [shc_set44 (syncSh (syncSh s OA) AT) sl (some ⟨g, 0, none⟩) _ h8] at k6
  exact ⟨rfl, H9.out.box (Only.setSelf _ q 44 _) k6 rfl, OD.out.trans (Only.setSelf _ q 44 _)⟩
theorem ssafe_any (q : Nat) (s : Sh) (sl : Sl) (mp : Option Addr) (w : World) (hk : Blk w q 108 (shc s sl mp)) (h8 : Lg8 s.log) :
    Calls Try.prog 17 #[.pointer (some ⟨q, 0, none⟩)] w fun e w' => e = .returned (.int .i64 s.safe) ∧ Below w.heap.size w w' := by
  have c44 := hk.cell 44
  rw [shc_safe h8] at c44
  have lk := hk.lt
  go_enter Try.func17, Try.ntmps17
  go_wp2_with fail
  go_ret
  exact ⟨rfl, Below.refl _ _⟩
theorem slast_bad (q : Nat) (s : Sh) (sl : Sl) (mp : Option Addr) (a : Int) (w : World) (hk : Blk w q 108 (shc s sl mp)) (ha : a < 0 ∨ 7 < a) :
    Calls Try.prog 29 #[.pointer (some ⟨q, 0, none⟩), .int .i64 a] w fun e w' => e = .returned (.tuple #[.agg #[.int .i64 0, .int .i64 0], .int .i64 1]) ∧ Below w.heap.size w w' := by
  have lk := hk.lt
  have hb := (Below.refl w.heap.size w).alloc (Nat.le_refl _) (.cells #[.int .i64 0, .int .i64 0] 48)
  by_cases h0 : a < 0
  · have hd : decide (a < 0) = true := decide_eq_true h0
    go_enter Try.func29, Try.ntmps29
    go_wp2_with fail
    exact bodyPost_ret (v := .tuple #[.agg #[.int .i64 0, .int .i64 0], .int .i64 1]) (by simp [results, Try.results29, go_sem]) rfl ⟨rfl, hb⟩
  · have hd : decide (a < 0) = false := decide_eq_false h0
    have hd2 : decide (7 < a) = true := decide_eq_true (by omega)
    go_enter Try.func29, Try.ntmps29
    go_wp2_with fail
    exact bodyPost_ret (v := .tuple #[.agg #[.int .i64 0, .int .i64 0], .int .i64 1]) (by simp [results, Try.results29, go_sem]) rfl ⟨rfl, hb⟩
theorem slast_good (q : Nat) (s : Sh) (sl : Sl) (mp : Option Addr) (x : Nat) (w : World) (hk : Blk w q 108 (shc s sl mp)) (h8 : Lg8 s.log) (hx : x < 8) :
    Calls Try.prog 29 #[.pointer (some ⟨q, 0, none⟩), .int .i64 x] w fun e w' => e = .returned (.tuple #[.agg #[.int .i64 (s.log.table[x]'(by have := h8.2; omega)).1, .int .i64 (s.log.table[x]'(by have := h8.2; omega)).2], .int .i64 0]) ∧ Below w.heap.size w w' := by
  obtain ⟨PP, hPP⟩ : ∃ PP, s.log.table[x]'(by have := h8.2; omega) = PP := ⟨_, rfl⟩
  obtain ⟨t1, t2⟩ := lgc_table (s := sl) h8 x hx
  rw [hPP] at t1 t2 ⊢
  obtain ⟨y0, y1⟩ := PP
  simp only at t1 t2
  have e0 := hk.cell (5 + (19 + x * 2))
  have e1 := hk.cell (5 + (19 + x * 2 + 1))
  rw [shc_log _ (by omega) h8, t1] at e0
  rw [shc_log _ (by omega) h8, t2] at e1
  rw [show 5 + (19 + x * 2) = 24 + x * 2 by omega] at e0
  rw [show 5 + (19 + x * 2 + 1) = 24 + x * 2 + 1 by omega] at e1
  have lk := hk.lt
  have hx0 : (0 : Int) ≤ (x : Int) := by omega
  have hx8 : (x : Int) < 8 := by omega
  have hd : decide ((x : Int) < 0) = false := decide_eq_false (by omega)
  have hd2 : decide ((7 : Int) < (x : Int)) = false := decide_eq_false (by omega)
  have hb := (Below.refl w.heap.size w).alloc (Nat.le_refl _) (.cells #[.int .i64 y0, .int .i64 y1] 48)
  clear t1 t2 hPP
  go_enter Try.func29, Try.ntmps29
  go_wp2_with fail
  exact bodyPost_ret (v := .tuple #[.agg #[.int .i64 y0, .int .i64 y1], .int .i64 0]) (by simp [results, Try.results29, go_sem]) rfl ⟨rfl, hb⟩
end Go.Proofs.Ytmnnaemcjmiplaa
