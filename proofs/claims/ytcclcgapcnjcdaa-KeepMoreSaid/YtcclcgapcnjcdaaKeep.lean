/- Contracts of package keep. -/
import Derived.Test.YtcclcgapcnjcdaaInts
namespace Go.Proofs.Ytcclcgapcnjcdaa
open Go.ChangeShapes Go.WideShapes Go.RowKit
set_option linter.unusedVariables false
set_option linter.unusedSimpArgs false
set_option maxRecDepth 100000
set_option maxHeartbeats 4000000

def pinBad (p : List Int) : Prop := ∃ r ∈ p, r < 0 ∨ 2147483647 < r
instance (p : List Int) : Decidable (pinBad p) := by unfold pinBad; infer_instance
/-- what Check says of a policy -/
def kchk (last every : Int) (p : List Int) : Int :=
  if last < 1 ∨ 2147483647 < last ∨ every < 0 ∨ 2147483647 < every then 1 else if 16 < p.length then 2 else if pinBad p then 1 else 0
def pol (last every : Int) (A : Option Addr) (n c : Nat) : Value := .agg #[.int .i64 last, .int .i64 every, .slice A n c]

theorem kcheck_arg (last every : Int) (p : List Int) (A : Option Addr) (n c B : Nat) (w : World) (h : RdI w B A n c p) (hB : B ≤ w.heap.size) (hbad : last < 1 ∨ 2147483647 < last ∨ every < 0 ∨ 2147483647 < every) :
    Calls Try.prog 47 #[pol last every A n c] w fun e w' => e = .returned (.int .i64 (kchk last every p)) ∧ Below w.heap.size w w' := by
  have hk : Hid (kchk last every p = 1) := Lib.hid (by unfold kchk; rw [if_pos hbad])
  rw [hk.out]
  clear hk h
  unfold pol
  by_cases h1 : last < 1
  · go_enter Try.func47, Try.ntmps47
    go_wp2_with fail
    go_ret
    exact ⟨rfl, (Below.refl _ _).alloc (Nat.le_refl _) _⟩
  by_cases h2 : 2147483647 < last
  · clear hbad
    go_enter Try.func47, Try.ntmps47
    go_wp2_with fail
    go_ret
    exact ⟨rfl, (Below.refl _ _).alloc (Nat.le_refl _) _⟩
  by_cases h3 : every < 0
  · clear hbad
    go_enter Try.func47, Try.ntmps47
    go_wp2_with fail
    go_ret
    exact ⟨rfl, (Below.refl _ _).alloc (Nat.le_refl _) _⟩
  · have h4 : 2147483647 < every := by omega
    clear hbad
    go_enter Try.func47, Try.ntmps47
    go_wp2_with fail
    go_ret
    exact ⟨rfl, (Below.refl _ _).alloc (Nat.le_refl _) _⟩
theorem kcheck_good (last every : Int) (p : List Int) (A : Option Addr) (n c B : Nat) (w : World) (h : RdI w B A n c p) (hB : B ≤ w.heap.size) (h1 : 1 ≤ last) (h2 : last ≤ 2147483647) (h3 : 0 ≤ every) (h4 : every ≤ 2147483647) :
    Calls Try.prog 47 #[pol last every A n c] w fun e w' => e = .returned (.int .i64 (kchk last every p)) ∧ Below w.heap.size w w' := by
  have hle := h.le
  by_cases hl : 16 < n
  · have hk : Hid (kchk last every p = 2) := Lib.hid (by unfold kchk; rw [if_neg (by omega), if_pos (by have := h.1; omega)])
    rw [hk.out]
    clear hk h
    have hl' : (16 : Int) < (n : Int) := by omega
    unfold pol
    go_enter Try.func47, Try.ntmps47
    go_wp2_with fail
    go_ret
    exact ⟨rfl, (Below.refl _ _).alloc (Nat.le_refl _) _⟩
  · have hl' : (n : Int) ≤ 16 := by omega
    have hk : Hid (kchk last every p = if pinBad p then 1 else 0) := Lib.hid (by unfold kchk; rw [if_neg (by omega), if_neg (by have := h.1; omega)])
    have H := Lib.hid (h.alloc hB (.cells #[.int .i64 last, .int .i64 every, .slice A n c] 24))
    clear h hl
    unfold pol
    go_enter Try.func47, Try.ntmps47
    go_wp2_with fail
    go_loop [4, 30] (fun r i => ∃ k : Nat, k ≤ n ∧ i = .int .i64 k ∧ Hid (¬ pinBad (p.take k))) (fun _ i => n - (intOf i).toNat)
    case atStart => exact ⟨0, by omega, rfl, Lib.hid (by simp [pinBad])⟩
    case round =>
      obtain ⟨k, hkn, rfl, hm⟩ := hrel
      by_cases hlt : k < n
      · obtain ⟨b, o, rfl, hb, hc⟩ := H.out.at_ k hlt
        have hkl : k < p.length := by have := H.out.1; omega
        have hts : Hid (p.take (k + 1) = p.take k ++ [p[k]]) := Lib.hid (by rw [List.take_succ_eq_append_getElem hkl])
        have hin : Hid (p[k] ∈ p) := Lib.hid (List.getElem_mem hkl)
        generalize p[k] = y at *
        have hk0 : (0 : Int) ≤ (k : Int) := by omega
        have hkn : (k : Int) < (n : Int) := by omega
        by_cases hy : y < 0 ∨ 2147483647 < y
        · have hpb : Hid (pinBad p) := Lib.hid ⟨y, hin.out, hy⟩
          by_cases hy0 : y < 0
          · clear hy
            go_wp2_with fail
            go_ret
            exact ⟨by rw [hk.out, if_pos hpb.out]; rfl, (Below.refl _ _).alloc (Nat.le_refl _) _⟩
          · have hy1 : 2147483647 < y := by omega
            clear hy
            go_wp2_with fail
            go_ret
            exact ⟨by rw [hk.out, if_pos hpb.out]; rfl, (Below.refl _ _).alloc (Nat.le_refl _) _⟩
        · have hy0 : 0 ≤ y := by omega
          have hy1 : y ≤ 2147483647 := by omega
          clear hy
          go_wp2_with fail
          go_round
          case rel =>
            refine ⟨k + 1, by omega, by go_num, Lib.hid ?_⟩
            rw [hts.out]
            rintro ⟨r, hr, hbad⟩
            rcases List.mem_append.1 hr with hr | hr
            · exact hm.out ⟨r, hr, hbad⟩
            · rw [List.mem_singleton] at hr; omega
          case measure => simp [intOf]; omega
      · have hnot : Hid (¬ pinBad p) := Lib.hid (by have h1 := hm.out; rw [List.take_of_length_le (by have := H.out.1; omega)] at h1; exact h1)
        clear hm
        go_wp2_with fail
        go_ret
        exact ⟨by rw [hk.out, if_neg hnot.out]; rfl, (Below.refl _ _).alloc (Nat.le_refl _) _⟩
theorem kcheck_any (last every : Int) (p : List Int) (A : Option Addr) (n c B : Nat) (w : World) (h : RdI w B A n c p) (hB : B ≤ w.heap.size) :
    Calls Try.prog 47 #[pol last every A n c] w fun e w' => e = .returned (.int .i64 (kchk last every p)) ∧ Below w.heap.size w w' := by
  by_cases hbad : last < 1 ∨ 2147483647 < last ∨ every < 0 ∨ 2147483647 < every
  · exact kcheck_arg last every p A n c B w h hB hbad
  · exact kcheck_good last every p A n c B w h hB (by omega) (by omega) (by omega) (by omega)
theorem kchk_zero (last every : Int) (p : List Int) (h : kchk last every p = 0) : 1 ≤ last ∧ last ≤ 2147483647 ∧ 0 ≤ every ∧ every ≤ 2147483647 ∧ p.length ≤ 16 ∧ ∀ r ∈ p, 0 ≤ r ∧ r ≤ 2147483647 := by
  unfold kchk at h
  split at h
  · omega
  · split at h
    · omega
    · split at h
      · omega
      · rename_i h1 h2 h3
        refine ⟨by omega, by omega, by omega, by omega, by omega, fun r hr => ?_⟩
        have : ¬ (r < 0 ∨ 2147483647 < r) := fun hb => h3 ⟨r, hr, hb⟩
        omega
theorem kchk_cases (last every : Int) (p : List Int) : kchk last every p = 0 ∨ kchk last every p = 1 ∨ kchk last every p = 2 := by
  unfold kchk
  (repeat' split) <;> simp

/-- is a revision kept? -/
def kB (last every : Int) (p : List Int) (head r : Int) : Bool := decide (head - last < r) || (decide (0 < every) && decide (r % every = 0)) || decide (r ∈ p)
theorem kept_any (last every : Int) (p : List Int) (head r : Nat) (A : Option Addr) (n c B : Nat) (w : World) (h : RdI w B A n c p) (hB : B ≤ w.heap.size) (h1 : 1 ≤ last) (h2 : last ≤ 2147483647) (h3 : 0 ≤ every) (h4 : every ≤ 2147483647)
    (h5 : (head : Int) ≤ 641) (h6 : (r : Int) ≤ 641) (b : Bool) (hb : kB last every p head r = b) :
    Calls Try.prog 48 #[pol last every A n c, .int .i64 head, .int .i64 r] w fun e w' => e = .returned (.bool b) ∧ Below w.heap.size w w' := by
  have H := Lib.hid (h.alloc hB (.cells #[.int .i64 last, .int .i64 every, .slice A n c] 24))
  have HB := Lib.hid hb
  clear h hb
  have hr0 : (0 : Int) ≤ (r : Int) := by omega
  unfold pol
  by_cases g1 : (head : Int) - last < r
  · have e : Hid (b = true) := Lib.hid (by rw [← HB.out]; unfold kB; simp [g1])
    rw [e.out]
    clear e HB
    go_enter Try.func48, Try.ntmps48
    go_wp2_with fail
    go_ret
    exact ⟨rfl, (Below.refl _ _).alloc (Nat.le_refl _) _⟩
  by_cases g2 : 0 < every
  · by_cases g3 : (r : Int) % every = 0
    · have e : Hid (b = true) := Lib.hid (by rw [← HB.out]; unfold kB; simp [g2, g3])
      rw [e.out]
      have g3' : ((r : Int) % every == 0) = true := by simpa using g3
      clear e HB g3
      go_enter Try.func48, Try.ntmps48
      go_wp2_with fail
      go_ret
      exact ⟨rfl, (Below.refl _ _).alloc (Nat.le_refl _) _⟩
    · have e : Hid (decide ((r : Int) ∈ p) = b) := Lib.hid (by rw [← HB.out]; unfold kB; simp [g1, g3])
      have g3' : ((r : Int) % every == 0) = false := by simpa using g3
      clear HB g3
      go_enter Try.func48, Try.ntmps48
      go_wp2_with fail
      refine (contains_any p r A n c B _ H.out b e.out).mono ?_
      rintro e w' ⟨rfl, rfl⟩
      go_wp2_with fail
      go_ret
      exact ⟨rfl, (Below.refl _ _).alloc (Nat.le_refl _) _⟩
  · have e : Hid (decide ((r : Int) ∈ p) = b) := Lib.hid (by rw [← HB.out]; unfold kB; simp [g1, g2])
    clear HB
    go_enter Try.func48, Try.ntmps48
    go_wp2_with fail
    refine (contains_any p r A n c B _ H.out b e.out).mono ?_
    rintro e w' ⟨rfl, rfl⟩
    go_wp2_with fail
    go_ret
    exact ⟨rfl, (Below.refl _ _).alloc (Nat.le_refl _) _⟩

/-- the revisions that are kept, below k -/
def kL (last every : Int) (p : List Int) (head : Int) (k : Nat) : List Int := ((List.range k).filter (fun r : Nat => kB last every p head (r : Int))).map (fun r : Nat => (r : Int))
theorem kL_zero (last every : Int) (p : List Int) (head : Int) : kL last every p head 0 = [] := rfl
theorem kL_len (last every : Int) (p : List Int) (head : Int) (k : Nat) : (kL last every p head k).length ≤ k := by
  unfold kL
  rw [List.length_map]
  exact Nat.le_trans (List.length_filter_le _ _) (by simp)
theorem kL_succ (last every : Int) (p : List Int) (head : Int) (k : Nat) : kL last every p head (k + 1) = kL last every p head k ++ if kB last every p head (k : Int) then [(k : Int)] else [] := by
  unfold kL
  rw [List.range_succ, List.filter_append, List.map_append]
  by_cases h : kB last every p head (k : Int) <;> simp [List.filter_cons, h]
theorem keep_err (last every : Int) (p : List Int) (head : Int) (A : Option Addr) (n c B : Nat) (w : World) (h : RdI w B A n c p) (hB : B ≤ w.heap.size) (hk : kchk last every p ≠ 0) :
    Calls Try.prog 15 #[pol last every A n c, .int .i64 head] w fun e w' => e = .returned (.tuple #[.slice none 0 0, .int .i64 (kchk last every p)]) ∧ Below w.heap.size w w' := by
  have H := Lib.hid (h.alloc hB (.cells #[.int .i64 last, .int .i64 every, .slice A n c] 24))
  have hne : ((kchk last every p) != 0) = true := by simpa using hk
  clear h hk
  unfold pol
  go_enter Try.func15, Try.ntmps15
  go_wp2_with fail
  refine (kcheck_any last every p A n c B _ H.out (by simp; omega)).mono ?_
  rintro e w1 ⟨rfl, hb1⟩
  have hb := ((Below.refl w.heap.size w).alloc (Nat.le_refl _) (.cells #[.int .i64 last, .int .i64 every, .slice A n c] 24)).trans (hb1.mono (by simp))
  clear hb1
  go_wp2_with fail
  go_ret2
  exact ⟨rfl, hb⟩
theorem keep_arg (last every : Int) (p : List Int) (head : Int) (A : Option Addr) (n c B : Nat) (w : World) (h : RdI w B A n c p) (hB : B ≤ w.heap.size) (hk : kchk last every p = 0) (hh : head < 0 ∨ 640 < head) :
    Calls Try.prog 15 #[pol last every A n c, .int .i64 head] w fun e w' => e = .returned (.tuple #[.slice none 0 0, .int .i64 1]) ∧ Below w.heap.size w w' := by
  have H := Lib.hid (h.alloc hB (.cells #[.int .i64 last, .int .i64 every, .slice A n c] 24))
  have Hk := Lib.hid hk
  clear h hk
  unfold pol
  go_enter Try.func15, Try.ntmps15
  go_wp2_with fail
  refine (kcheck_any last every p A n c B _ H.out (by simp; omega)).mono ?_
  rintro e w1 ⟨rfl, hb1⟩
  rw [Hk.out]
  have hb := ((Below.refl w.heap.size w).alloc (Nat.le_refl _) (.cells #[.int .i64 last, .int .i64 every, .slice A n c] 24)).trans (hb1.mono (by simp))
  clear hb1
  by_cases h0 : head < 0
  · clear hh
    go_wp2_with fail
    go_ret2
    exact ⟨rfl, hb⟩
  · have h1 : 640 < head := by omega
    clear hh
    go_wp2_with fail
    go_ret2
    exact ⟨rfl, hb⟩
theorem keep_good (last every : Int) (p : List Int) (head : Nat) (A : Option Addr) (n c B : Nat) (w : World) (h : RdI w B A n c p) (hB : B ≤ w.heap.size) (hk : kchk last every p = 0) (hh : (head : Int) ≤ 640) :
    Calls Try.prog 15 #[pol last every A n c, .int .i64 head] w fun e w' => (∃ v, e = .returned (.tuple #[v, .int .i64 0]) ∧ OwnI w' w.heap.size v (kL last every p head (head + 1))) ∧ Below w.heap.size w w' := by
  have H := Lib.hid (h.alloc hB (.cells #[.int .i64 last, .int .i64 every, .slice A n c] 24))
  obtain ⟨q1, q2, q3, q4, _, _⟩ := kchk_zero _ _ _ hk
  have Hk := Lib.hid hk
  clear h hk
  unfold pol
  go_enter Try.func15, Try.ntmps15
  go_wp2_with fail
  refine (kcheck_any last every p A n c B _ H.out (by simp; omega)).mono ?_
  rintro e w1 ⟨rfl, hb1⟩
  rw [Hk.out]
  have H1 := Lib.hid (H.out.below (hb1.mono (by simp; omega)))
  have hblk := (Blk.new w 24 #[.int .i64 last, .int .i64 every, .slice A n c]).below hb1 (by simp)
  have hb := ((Below.refl w.heap.size w).alloc (Nat.le_refl _) (.cells #[.int .i64 last, .int .i64 every, .slice A n c] 24)).trans (hb1.mono (by simp))
  have hsz : w.heap.size + 1 ≤ w1.heap.size := by have := hb1.size; simpa using this
  clear hb1
  have Hblk := Lib.hid hblk
  clear hblk H
  go_wp2_with fail
  go_loopw [7, 8, 22] (fun v r i wr => ∃ k : Nat, k ≤ head + 1 ∧ i = .int .i64 k ∧ OwnI wr (w.heap.size + 1) v (kL last every p head k) ∧ Hid (RdI wr B A n c p) ∧ Hid (Blk wr w.heap.size 24 #[.int .i64 last, .int .i64 every, .slice A n c]) ∧
      Below w.heap.size w wr ∧ w.heap.size + 1 ≤ wr.heap.size) (fun _ _ i _ => head + 1 - (intOf i).toNat)
  case atStart => exact ⟨0, by omega, rfl, by rw [kL_zero]; exact OwnI.nil _ _, H1, Hblk, hb, hsz⟩
  case round =>
    obtain ⟨k, hkh, rfl, hown, hrd, hbl, hbw, hszr⟩ := hrel
    have Hown := Lib.hid hown
    have hll := kL_len last every p head k
    have HS := Lib.hid (kL_succ last every p head k)
    by_cases hlt : k < head + 1
    · have c0 := hbl.out.cell 0
      have c1 := hbl.out.cell 1
      have c2 := hbl.out.cell 2
      have hk0 : (0 : Int) ≤ (k : Int) := by omega
      have hk1 : (k : Int) < (head : Int) + 1 := by omega
      clear hown
      go_wp2_with fail
      have hcall : ∀ b, kB last every p head k = b → Calls Try.prog 48 #[pol last every A n c, .int .i64 head, .int .i64 k] wr fun e w' => e = .returned (.bool b) ∧ Below wr.heap.size wr w' :=
        fun b hb => kept_any last every p head k A n c B wr hrd.out (by omega) q1 q2 q3 q4 (by omega) (by omega) b hb
      obtain ⟨b, hb⟩ : ∃ b, kB last every p head k = b := ⟨_, rfl⟩
      have hc := hcall b hb
      have HB := Lib.hid hb
      clear hcall hb
      unfold pol at hc
      refine hc.mono ?_
      clear hc
      rintro e w2 ⟨rfl, hb2⟩
      have hown2 := Lib.hid (OwnI.below Hown.out hb2)
      have hrd2 : Hid (RdI w2 B A n c p) := Lib.hid (hrd.out.below (hb2.mono (by omega)))
      have hbl2 := Lib.hid (hbl.out.below hb2 hbl.out.lt)
      have hbw2 := hbw.trans (hb2.mono hbw.size)
      have hsz2 : w.heap.size + 1 ≤ w2.heap.size := by have := hb2.size; omega
      clear hb2 c0 c1 c2
      cases b
      · go_wp2_with fail
        go_roundw
        case rel => exact ⟨k + 1, by omega, by go_num, by rw [HS.out, HB.out]; simpa using hown2.out, hrd2, hbl2, hbw2, hsz2⟩
        case measure => simp [intOf]; omega
      · have hlb : (kL last every p head k).length ≤ 100000000 := by omega
        go_wp2_with (first | (at_builtin; refine wpList_app_int _ rfl (.tmp 29) (.tmp 31) rfl (w.heap.size + 1) _ (kL last every p head k) rfl hown2.out (k : Int) 1 rfl hlb hsz2 ?_; intro v' w3 h1 h2 h3 h4))
        have hge := own_ge hown2.out
        have hr3 : ∀ g, v'.ownBlock = some g → w.heap.size + 1 ≤ g := own_ge h1
        have e1 := h2.mono (show w.heap.size ≤ w.heap.size + 1 by omega)
        have hrd3 : Hid (RdI w3 B A n c p) := Lib.hid (hrd2.out.below (h2.mono (by omega)))
        have hbl3 := Lib.hid (hbl2.out.below h2 (by omega))
        have hbw3 := hbw2.trans e1
        have hsz3 : w.heap.size + 1 ≤ w3.heap.size := by have := h2.size; omega
        have h1' := Lib.hid h1
        clear h1 h2 h3 h4 hge hr3 e1
        go_wp2_with fail
        go_roundw
        case rel => exact ⟨k + 1, by omega, by go_num, by rw [HS.out, HB.out]; exact h1'.out, hrd3, hbl3, hbw3, hsz3⟩
        case measure => simp [intOf]; omega
    · obtain rfl : k = head + 1 := by omega
      clear hown HS hll
      go_wp2_with fail
      go_ret2
      exact ⟨⟨_, rfl, own_base Hown.out (by omega)⟩, hbw⟩
end Go.Proofs.Ytcclcgapcnjcdaa
