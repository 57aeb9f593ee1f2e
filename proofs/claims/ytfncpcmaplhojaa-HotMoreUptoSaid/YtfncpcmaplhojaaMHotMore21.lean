/- A log that is written is read as it was written (pure). -/
import Derived.Test.YtfncpcmaplhojaaMHotMore20
namespace Go.Proofs.Ytfncpcmaplhojaa
set_option linter.unusedVariables false
set_option linter.unusedSimpArgs false
set_option maxRecDepth 100000

def tz : List (Nat × Nat) := List.replicate 8 (0, 0)
theorem tz_le : ∀ p ∈ tz, p.1 ≤ 2147483647 ∧ p.2 ≤ 2147483647 := by
  intro p hp
  rw [tz, List.mem_replicate] at hp
  rw [hp.2]
  exact ⟨by decide, by decide⟩
/-- a head as a frame -/
def hf (g b : Nat) (t : List (Nat × Nat)) (text : ByteArray) : Fm := (1, ⟨(headB ((g, b) :: t) text).toArray⟩)
def doneF : Fm := (3, ⟨#[]⟩)
/-- the log that a head says -/
def L0 (g b : Nat) (t : List (Nat × Nat)) (text : ByteArray) : Lg := ⟨g, b, text, tbN t, tbN t, [], false, ((headB ((g, b) :: t) text).length + 7 : Nat)⟩
theorem hdB_tx (g b : Nat) (t : List (Nat × Nat)) (text : ByteArray) : (hdB g b t text).data.toList = txF (hf g b t text) := by simp [hdB, hf]
theorem frB_tx (r : Rv) : (frB r).data.toList = txF (frR r) := by simp [frB]
theorem headB_len (g b : Nat) (t : List (Nat × Nat)) (text : ByteArray) (ht : t.length = 8) (hg : g ≤ 2147483647) (hb : b ≤ 2147483647) (h : ∀ p ∈ t, p.1 ≤ 2147483647 ∧ p.2 ≤ 2147483647) : (headB ((g, b) :: t) text).length ≤ 90 + text.size := by
  have := tkB_len ((g, b) :: t) (by
    intro p hp
    rcases List.mem_cons.1 hp with rfl | hp
    · exact ⟨hg, hb⟩
    · exact h p hp)
  rw [List.length_cons, ht] at this
  have h2 : text.data.toList.length = text.size := rfl
  unfold headB
  rw [List.length_append, h2]
  omega
theorem hf_ok (g b : Nat) (t : List (Nat × Nat)) (text : ByteArray) (ht : t.length = 8) (hg : g ≤ 2147483647) (hb : b ≤ 2147483647) (h : ∀ p ∈ t, p.1 ≤ 2147483647 ∧ p.2 ≤ 2147483647) (hx : text.size ≤ 500) : okF (hf g b t text) := by
  have := headB_len g b t text ht hg hb h
  refine ⟨by show (1 : Int) ≤ 1; decide, by show (1 : Int) ≤ 255; decide, ?_⟩
  show (headB ((g, b) :: t) text).toArray.size ≤ 4000
  rw [List.size_toArray]; omega
theorem doneF_ok : okF doneF := by decide
theorem hot_head (g b : Nat) (t : List (Nat × Nat)) (text : ByteArray) (fs : List Fm) (ht : t.length = 8) (hg : g ≤ 2147483647) (hb : b ≤ 2147483647) (h : ∀ p ∈ t, p.1 ≤ 2147483647 ∧ p.2 ≤ 2147483647) (hx : text.size ≤ 500) :
    hotE (hf g b t text :: fs) = 0 ∧ hotL (hf g b t text :: fs) = readF (L0 g b t text) text fs := by
  have hk := head_back g b t text ht hg hb h hx
  have hd : (hf g b t text).2.data.toList = headB ((g, b) :: t) text := rfl
  have h1 : (hf g b t text).1 = 1 := rfl
  have hs : (hf g b t text).2.size = (headB ((g, b) :: t) text).length := by show (headB ((g, b) :: t) text).toArray.size = _; rw [List.size_toArray]
  have hc : ¬ ((hf g b t text).1 ≠ 1 ∨ hdOk (hf g b t text).2.data.toList = false) := by rw [h1, hd, hk.2]; decide
  constructor
  · simp only [hotE, if_neg hc]
  · simp only [hotL, if_neg hc]
    rw [hd, hk.1, hs]
    rfl
theorem hot_back (g b : Nat) (t : List (Nat × Nat)) (text : ByteArray) (rs : List Rv) (ht : t.length = 8) (hg : g ≤ 2147483647) (hb : b ≤ 2147483647) (h : ∀ p ∈ t, p.1 ≤ 2147483647 ∧ p.2 ≤ 2147483647) (hx : text.size ≤ 500) (hok : okRs (L0 g b t text) text rs) :
    hotE (hf g b t text :: (rs.map frR ++ [doneF])) = 0 ∧ hotL (hf g b t text :: (rs.map frR ++ [doneF])) = { addLs (L0 g b t text) rs with whole := true, good := (addLs (L0 g b t text) rs).good + 7 } := by
  obtain ⟨h1, h2⟩ := hot_head g b t text (rs.map frR ++ [doneF]) ht hg hb h hx
  refine ⟨h1, ?_⟩
  rw [h2, readF_revs rs _ _ _ hok]
  have hw : (addLs (L0 g b t text) rs).whole = false := (addLs_same rs (L0 g b t text)).2.2.2.2.2.1
  unfold doneF
  rw [readF_done _ _ _ hw]
  rfl
theorem addLs_snoc : ∀ (rs : List Rv) (l : Lg) (r : Rv), addLs l (rs ++ [r]) = { addL (addLs l rs) r with good := (addLs l rs).good + (((bodyR r).length + 7 : Nat) : Int) }
  | [], l, r => rfl
  | q :: rs, l, r => addLs_snoc rs _ r
theorem okRs_snoc : ∀ (rs : List Rv) (l : Lg) (t : ByteArray) (r : Rv), okRs l t rs → oneE r = 0 → nextE (addLs l rs) (txt t rs rs.length).size r = 0 → okRs l t (rs ++ [r])
  | [], l, t, r, _, h1, h2 => ⟨h1, h2, trivial⟩
  | q :: rs, l, t, r, h, h1, h2 => ⟨h.1, h.2.1, okRs_snoc rs _ _ r h.2.2 h1 h2⟩
theorem readF8 : ∀ (fs : List Fm) (l : Lg) (t : ByteArray), Lg8 l → Lg8 (readF l t fs)
  | fs, l, t, h => by
    obtain ⟨_, _, _, h4, _, _, h7⟩ := readF_same fs l t
    exact ⟨by rw [h4]; exact h.1, by rw [h7]; exact h.2⟩
theorem hotL8 (fs : List Fm) : Lg8 (hotL fs) := by
  cases fs with
  | nil => exact lg0_8
  | cons f fs =>
    simp only [hotL]
    split
    · exact lg0_8
    · exact readF8 _ _ _ (hdL_8 _)
theorem frs_ok (l : List Rv) (h : ∀ r ∈ l, oneE r = 0) : ∀ p ∈ l.map frR, okF p := by
  intro p hp
  obtain ⟨r, hr, rfl⟩ := List.mem_map.1 hp
  exact frR_ok (h r hr)
/-- the last numbers, as a table has them -/
def lastOf (t : Tb) : List Int := t.map Prod.fst
theorem lastOf_at (t : Tb) (j : Nat) (hj : j < t.length) : (lastOf t)[j]'(by simpa [lastOf] using hj) = (t.getD j (0, 0)).1 := by
  simp [lastOf, hj]
theorem lastOf_set (t : Tb) (j : Nat) (a b : Int) : lastOf (t.set j (a, b)) = (lastOf t).set j a := by simp [lastOf]
end Go.Proofs.Ytfncpcmaplhojaa
