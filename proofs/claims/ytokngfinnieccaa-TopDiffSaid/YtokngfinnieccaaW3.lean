/- Contracts of part.fit, sizes, Check, Sizes. Contracts of part.Maker's methods. Structs in boxes: whole rows loaded and stored. A strings.Builder that a call makes itself: written and read. -/
import Derived.Test.YtokngfinnieccaaW1
import Derived.Test.YtokngfinnieccaaW2
import Derived.Deep.RegionLaw
import Derived.Deep.Cut
import Derived.StillTailTactics
import Derived.Deep.MidRow
import Derived.Test.YtokngfinnieccaaShelf
import Derived.Lib.Builder
namespace Go.Proofs.Ytokngfinnieccaa
open Go.ChangeShapes Go.WideShapes Go.RowKit
set_option linter.unusedVariables false
set_option linter.unusedSimpArgs false
set_option maxRecDepth 100000
set_option maxHeartbeats 4000000

def pcells (p : Pt) : List Value := [.int .i64 p.1, .int .i64 p.2.1, .string p.2.2]
def pval (p : Pt) : Value := .agg #[.int .i64 p.1, .int .i64 p.2.1, .string p.2.2]
def pc (l : List Pt) : List Value := l.flatMap pcells
theorem pc_len (l : List Pt) : (pc l).length = l.length * 3 := by
  unfold pc
  induction l with
  | nil => rfl
  | cons p l ih => rw [List.flatMap_cons, List.length_append, ih]; simp [pcells]; omega
theorem pc_at : ∀ (l : List Pt) (k : Nat) (h : k < l.length), (pc l)[k * 3]? = some (.int .i64 l[k].1) ∧ (pc l)[k * 3 + 1]? = some (.int .i64 l[k].2.1) ∧ (pc l)[k * 3 + 2]? = some (.string l[k].2.2)
  | [], k, h => absurd h (by simp)
  | p :: l, 0, h => ⟨rfl, rfl, rfl⟩
  | p :: l, k + 1, h => by
    have := pc_at l k (by simpa using h)
    have e (j : Nat) : (pc (p :: l))[(k + 1) * 3 + j]? = (pc l)[k * 3 + j]? := by
      unfold pc
      rw [List.flatMap_cons, List.getElem?_append_right (by simp [pcells]; omega)]
      congr 1
      simp [pcells]; omega
    have e0 := e 0
    simp only [Nat.add_zero] at e0
    rw [e0, e 1, e 2]
    exact this
/-- the slice reads as the parts -/
def RdP (w : World) (B : Nat) (A : Option Addr) (n c : Nat) (l : List Pt) : Prop := n = l.length ∧ Rd w B 3 A n c (pc l) ∧ ∀ p ∈ l, p.2.2.size ≤ 140737488351232
section
variable {w w' : World} {B B' n c : Nat} {A : Option Addr} {l : List Pt}
theorem RdP.at_ (h : RdP w B A n c l) (k : Nat) (hk : k < n) :
    ∃ b o, A = some ⟨b, o, none⟩ ∧ b < B ∧ w.cell? ⟨b, o + k * 3, none⟩ = some (.int .i64 (l[k]'(by have := h.1; omega)).1) ∧ w.cell? ⟨b, o + k * 3 + 1, none⟩ = some (.int .i64 (l[k]'(by have := h.1; omega)).2.1) ∧
      w.cell? ⟨b, o + k * 3 + 2, none⟩ = some (.string (l[k]'(by have := h.1; omega)).2.2) := by
  obtain ⟨b, o, e, hb, hc⟩ := h.2.1.2.2.2 (by omega)
  obtain ⟨h1, h2, h3⟩ := pc_at l k (by have := h.1; omega)
  refine ⟨b, o, e, hb, hc _ _ h1, ?_, ?_⟩
  · have := hc _ _ h2; rwa [← Nat.add_assoc] at this
  · have := hc _ _ h3; rwa [← Nat.add_assoc] at this
theorem RdP.below (h : RdP w B A n c l) (hb : Below B w w') : RdP w' B A n c l := ⟨h.1, h.2.1.below hb, h.2.2⟩
theorem RdP.more (h : RdP w B A n c l) (hB : B ≤ B') : RdP w B' A n c l := ⟨h.1, h.2.1.more hB, h.2.2⟩
theorem RdP.alloc (h : RdP w B A n c l) (hB : B ≤ w.heap.size) (o : Obj) : RdP (w.alloc o) B A n c l := ⟨h.1, h.2.1.alloc hB o, h.2.2⟩
theorem RdP.step (h : RdP w w.heap.size A n c l) (hb : Below w.heap.size w w') : RdP w' w'.heap.size A n c l := (h.below hb).more hb.size
theorem RdP.stepA (h : RdP w w.heap.size A n c l) (o : Obj) : RdP (w.alloc o) (w.alloc o).heap.size A n c l := (h.alloc (Nat.le_refl _) o).more (by simp)
end

theorem str_cases (t : ByteArray) : t = ⟨#[]⟩ ∨ (t.toList.isEmpty = false ∧ 1 ≤ (t.size : Int)) := by
  rcases Nat.eq_zero_or_pos t.size with h | h
  · exact .inl (emp_of_size h)
  · refine .inr ⟨?_, by omega⟩
    rw [ByteArray.toList_eq]
    rcases hl : t.data.toList with _ | ⟨x, l⟩
    · have : t.data.toList.length = 0 := by rw [hl]; rfl
      rw [bs_len] at this
      omega
    · rfl
theorem fit_any (p : Pt) (hs : p.2.2.size ≤ 9223372036854775807) (w : World) :
    Calls Try.prog 105 #[pval p] w fun e w' => e = .returned (.int .i64 (fitE p)) ∧ Below w.heap.size w w' := by
  obtain ⟨k, n, t⟩ := p
  unfold pval
  simp only at hs ⊢
  have hB : ∀ o, Below w.heap.size w (w.alloc o) := fun o => (Below.refl _ _).alloc (Nat.le_refl _) _
  have HB := Lib.hid hB
  clear hB
  obtain ⟨r, hr⟩ : ∃ r, fitE (k, n, t) = r := ⟨_, rfl⟩
  rw [hr]
  have Hr := Lib.hid hr
  clear hr
  by_cases hk1 : k = 1 ∨ k = 3
  · have hf : Hid (r = if n < 1 ∨ t.size ≠ 0 then 3 else if 500 < n then 2 else 0) := Lib.hid (by rw [← Hr.out]; unfold fitE; rw [if_pos hk1])
    by_cases hn : n < 1
    · obtain rfl : r = 3 := by rw [hf.out, if_pos (.inl hn)]
      clear hf Hr
      rcases hk1 with rfl | rfl
      all_goals
        go_enter Try.func105, Try.ntmps105
        go_wp2_with fail
        go_ret
        exact ⟨rfl, HB.out _⟩
    · rcases str_cases t with rfl | ⟨ht, ht1⟩
      · by_cases hn5 : 500 < n
        · obtain rfl : r = 2 := by rw [hf.out, if_neg (by rintro (h | h); exact hn h; exact h rfl), if_pos hn5]
          clear hf Hr
          rcases hk1 with rfl | rfl
          all_goals
            go_enter Try.func105, Try.ntmps105
            go_wp2_with fail
            go_ret
            exact ⟨rfl, HB.out _⟩
        · obtain rfl : r = 0 := by rw [hf.out, if_neg (by rintro (h | h); exact hn h; exact h rfl), if_neg hn5]
          clear hf Hr
          rcases hk1 with rfl | rfl
          all_goals
            go_enter Try.func105, Try.ntmps105
            go_wp2_with fail
            go_ret
            exact ⟨rfl, HB.out _⟩
      · obtain rfl : r = 3 := by rw [hf.out, if_pos (.inr (by omega))]
        clear hf Hr
        rcases hk1 with rfl | rfl
        all_goals
          go_enter Try.func105, Try.ntmps105
          go_wp2_with fail
          go_ret
          exact ⟨rfl, HB.out _⟩
  · by_cases hk2 : k = 2
    · subst hk2
      have hf : Hid (r = if n ≠ 0 ∨ t.size = 0 then 3 else if 500 < t.size then 2 else 0) := Lib.hid (by rw [← Hr.out]; unfold fitE; rw [if_neg (by simp), if_pos rfl])
      clear hk1
      by_cases hn : n = 0
      · subst hn
        rcases str_cases t with rfl | ⟨ht, ht1⟩
        · obtain rfl : r = 3 := by rw [hf.out, if_pos (.inr rfl)]
          clear hf Hr
          go_enter Try.func105, Try.ntmps105
          go_wp2_with fail
          go_ret
          exact ⟨rfl, HB.out _⟩
        · by_cases h5 : 500 < t.size
          · obtain rfl : r = 2 := by rw [hf.out, if_neg (by omega), if_pos h5]
            have h5' : (500 : Int) < (t.size : Int) := by omega
            clear hf Hr
            go_enter Try.func105, Try.ntmps105
            go_wp2_with fail
            go_ret
            exact ⟨rfl, HB.out _⟩
          · obtain rfl : r = 0 := by rw [hf.out, if_neg (by omega), if_neg h5]
            have h5' : (t.size : Int) ≤ 500 := by omega
            clear hf Hr
            go_enter Try.func105, Try.ntmps105
            go_wp2_with fail
            go_ret
            exact ⟨rfl, HB.out _⟩
      · obtain rfl : r = 3 := by rw [hf.out, if_pos (.inl hn)]
        have hne : (n != 0) = true := by simpa using hn
        clear hf Hr hn
        go_enter Try.func105, Try.ntmps105
        go_wp2_with fail
        go_ret
        exact ⟨rfl, HB.out _⟩
    · obtain rfl : r = 3 := by rw [← Hr.out]; unfold fitE; rw [if_neg hk1, if_neg hk2]
      have e1 : (k == 1) = false := by simp; omega
      have e2 : (k == 2) = false := by simp; omega
      have e3 : (k == 3) = false := by simp; omega
      clear Hr hk1 hk2
      go_enter Try.func105, Try.ntmps105
      go_wp2_with fail
      go_ret
      exact ⟨rfl, HB.out _⟩

theorem szI_snoc (l : List Pt) (p : Pt) : szI (l ++ [p]) = szI l + (if p.1 = 1 ∨ p.1 = 3 then p.2.1 else 0) := by
  induction l with
  | nil => simp [szI]
  | cons q l ih => simp only [List.cons_append, szI, ih]; omega
theorem szO_snoc (l : List Pt) (p : Pt) : szO (l ++ [p]) = szO l + (if p.1 = 1 then p.2.1 else if p.1 = 3 then 0 else (p.2.2.size : Int)) := by
  induction l with
  | nil => simp [szO]
  | cons q l ih => simp only [List.cons_append, szO, ih]; omega
theorem fit_bounds (p : Pt) (h : fitE p = 0) : ((p.1 = 1 ∨ p.1 = 3) ∧ 1 ≤ p.2.1 ∧ p.2.1 ≤ 500 ∧ p.2.2 = emp) ∨ (p.1 = 2 ∧ p.2.1 = 0 ∧ 1 ≤ (p.2.2.size : Int) ∧ (p.2.2.size : Int) ≤ 500) := by
  obtain ⟨h1, h2, h3⟩ := (fitE_zero p).1 h
  rcases h1 with ⟨h1, h4, h5⟩ | ⟨h1, h4, h5⟩
  · exact .inl ⟨h1, h4, h2, h5⟩
  · exact .inr ⟨h1, h4, by omega, by omega⟩
theorem sizes_any (l : List Pt) (A : Option Addr) (n c B : Nat) (w : World) (h : RdP w B A n c l) (hB : B ≤ w.heap.size) (hn : (n : Int) ≤ 2000) (hf : ∀ p ∈ l, fitE p = 0) :
    Calls Try.prog 106 #[.slice A n c] w fun e w' => e = .returned (.tuple #[.int .i64 (szI l), .int .i64 (szO l)]) ∧ Below w.heap.size w w' := by
  have H := Lib.hid h
  have HF := Lib.hid hf
  clear h hf
  go_enter Try.func106, Try.ntmps106
  go_wp2_with fail
  go_loopw [2, 3, 5, 8] (fun x y q i wr => ∃ (k : Nat) (a b : Int), k ≤ n ∧ i = .int .i64 k ∧ x = .int .i64 a ∧ y = .int .i64 b ∧ Hid (a = szI (l.take k)) ∧ Hid (b = szO (l.take k)) ∧ 0 ≤ a ∧ a ≤ 500 * k ∧ 0 ≤ b ∧ b ≤ 500 * k ∧ Below w.heap.size w wr) (fun _ _ _ i _ => n - (intOf i).toNat)
  case atStart => exact ⟨0, 0, 0, by omega, rfl, rfl, rfl, Lib.hid rfl, Lib.hid rfl, by omega, by omega, by omega, by omega, Below.refl _ _⟩
  case round =>
    obtain ⟨k, a, b, hk, rfl, rfl, rfl, ha, hb, ha0, ha1, hb0, hb1, hbw⟩ := hrel
    by_cases hlt : k < n
    · have hkl : k < l.length := by have := H.out.1; omega
      obtain ⟨g, o, rfl, hg, c0, c1, c2⟩ := (H.out.below (hbw.mono hB)).at_ k hlt
      have hfit := HF.out l[k] (List.getElem_mem hkl)
      have hts : Hid (l.take (k + 1) = l.take k ++ [l[k]]) := Lib.hid (by rw [List.take_succ_eq_append_getElem hkl])
      obtain ⟨p, hp⟩ : ∃ p, p = l[k] := ⟨_, rfl⟩
      rw [← hp] at hfit hts c0 c1 c2
      clear hp
      have hbd := fit_bounds p hfit
      obtain ⟨kd, m, t⟩ := p
      simp only at hbd c0 c1 c2
      have hk0 : (0 : Int) ≤ (k : Int) := by omega
      have hkn : (k : Int) < (n : Int) := by omega
      have hgl : g < wr.heap.size := by have := hbw.size; omega
      clear hfit
      rcases hbd with ⟨rfl | rfl, h1, h2, rfl⟩ | ⟨rfl, rfl, h1, h2⟩
      · go_wp2_with fail
        go_roundw
        case rel => exact ⟨k + 1, a + m, b + m, by omega, by go_num, rfl, rfl, Lib.hid (by rw [hts.out, szI_snoc, ← ha.out]; simp), Lib.hid (by rw [hts.out, szO_snoc, ← hb.out]; simp), by omega, by omega, by omega, by omega, hbw.alloc hbw.size _⟩
        case measure => simp [intOf]; omega
      · go_wp2_with fail
        go_roundw
        case rel => exact ⟨k + 1, a + m, b, by omega, by go_num, rfl, rfl, Lib.hid (by rw [hts.out, szI_snoc, ← ha.out]; simp), Lib.hid (by rw [hts.out, szO_snoc, ← hb.out]; simp), by omega, by omega, by omega, by omega, hbw.alloc hbw.size _⟩
        case measure => simp [intOf]; omega
      · go_wp2_with fail
        go_roundw
        case rel => exact ⟨k + 1, a, b + t.size, by omega, by go_num, rfl, rfl, Lib.hid (by rw [hts.out, szI_snoc, ← ha.out]; simp), Lib.hid (by rw [hts.out, szO_snoc, ← hb.out]; simp), by omega, by omega, by omega, by omega, hbw.alloc hbw.size _⟩
        case measure => simp [intOf]; omega
    · have hka : Hid (a = szI l) := Lib.hid (by rw [ha.out, List.take_of_length_le (by have := H.out.1; omega)])
      have hkb : Hid (b = szO l) := Lib.hid (by rw [hb.out, List.take_of_length_le (by have := H.out.1; omega)])
      clear ha hb
      go_wp2_with fail
      go_ret2
      exact ⟨by show Ending.returned (.tuple #[.int .i64 a, .int .i64 b]) = _; rw [← hka.out, ← hkb.out], hbw⟩
theorem chk_large (l : List Pt) (A : Option Addr) (n c B : Nat) (w : World) (h : RdP w B A n c l) (hn : (1600 : Int) < (n : Int)) :
    Calls Try.prog 76 #[.slice A n c] w fun e w' => e = .returned (.int .i64 (chk l)) ∧ Below w.heap.size w w' := by
  have hk : Hid (chk l = 2) := Lib.hid (by unfold chk; rw [if_pos (by have := h.1; omega)])
  rw [hk.out]
  clear h hk
  go_enter Try.func76, Try.ntmps76
  go_wp2_with fail
  go_ret
  exact ⟨rfl, Below.refl _ _⟩
theorem fit_call (k m : Int) (t : ByteArray) (r : Int) (hr : fitE (k, m, t) = r) (hs : t.size ≤ 140737488351232) (w : World) :
    Calls Try.prog 105 #[.agg #[.int .i64 k, .int .i64 m, .string t]] w fun e w' => e = .returned (.int .i64 r) ∧ Below w.heap.size w w' := by
  rw [← hr]
  exact fit_any (k, m, t) (by simp only; omega) w
theorem chk_any (l : List Pt) (A : Option Addr) (n c B : Nat) (w : World) (h : RdP w B A n c l) (hB : B ≤ w.heap.size) :
    Calls Try.prog 76 #[.slice A n c] w fun e w' => e = .returned (.int .i64 (chk l)) ∧ Below w.heap.size w w' := by
  by_cases hn : (1600 : Int) < (n : Int)
  · exact chk_large l A n c B w h hn
  have hn' : (n : Int) ≤ 1600 := by omega
  have hck : Hid (chk l = if chkL 0 l ≠ 0 then chkL 0 l else if 500 < max (szI l) (szO l) then 2 else 0) := Lib.hid (by unfold chk; rw [if_neg (by have := h.1; omega)])
  obtain ⟨R, hR⟩ : ∃ R, chkL 0 l = R := ⟨_, rfl⟩
  rw [hR] at hck
  have H := Lib.hid h
  have HR := Lib.hid hR
  clear h hn hR
  go_enter Try.func76, Try.ntmps76
  go_wp2_with fail
  go_loopw [3, 5, 6, 14] (fun x q e i wr => ∃ (k : Nat) (last : Int), k ≤ n ∧ i = .int .i64 k ∧ x = .int .i64 last ∧ Hid (R = chkL last (l.drop k)) ∧ Hid (∀ p ∈ l.take k, fitE p = 0) ∧ Below w.heap.size w wr) (fun _ _ _ i _ => n - (intOf i).toNat)
  case atStart => exact ⟨0, 0, by omega, rfl, rfl, Lib.hid (by rw [List.drop_zero, HR.out]), Lib.hid (by simp), Below.refl _ _⟩
  case round =>
    obtain ⟨k, last, hk, rfl, rfl, hrest, hfit, hbw⟩ := hrel
    by_cases hlt : k < n
    · have hkl : k < l.length := by have := H.out.1; omega
      obtain ⟨g, o, rfl, hg, c0, c1, c2⟩ := (H.out.below (hbw.mono hB)).at_ k hlt
      have hts : Hid (l.take (k + 1) = l.take k ++ [l[k]]) := Lib.hid (by rw [List.take_succ_eq_append_getElem hkl])
      have hdr : Hid (l.drop k = l[k] :: l.drop (k + 1)) := Lib.hid (List.drop_eq_getElem_cons hkl)
      have hsz := H.out.2.2 l[k] (List.getElem_mem hkl)
      obtain ⟨p, hp⟩ : ∃ p, p = l[k] := ⟨_, rfl⟩
      rw [← hp] at hts hdr c0 c1 c2 hsz
      clear hp
      obtain ⟨kd, m, t⟩ := p
      simp only at c0 c1 c2 hsz
      have hk0 : (0 : Int) ≤ (k : Int) := by omega
      have hkn : (k : Int) < (n : Int) := by omega
      have hgl : g < wr.heap.size := by have := hbw.size; omega
      have hstep : Hid (R = if kd = last ∨ (last = 3 ∧ kd = 2) then 3 else if fitE (kd, m, t) ≠ 0 then fitE (kd, m, t) else chkL kd (l.drop (k + 1))) := Lib.hid (by rw [hrest.out, hdr.out]; rfl)
      have hw1 := hbw.alloc hbw.size (.cells #[.int .i64 kd, .int .i64 m, .string t] 88)
      have hblk := Blk.new wr 88 #[.int .i64 kd, .int .i64 m, .string t]
      have Hblk := Lib.hid hblk
      clear hblk
      by_cases h1 : kd = last
      · subst h1
        have hR3 : Hid (R = 3) := Lib.hid (by rw [hstep.out, if_pos (.inl rfl)])
        clear hrest
        go_wp2_with fail
        go_ret
        refine ⟨?_, hw1⟩
        rw [hck.out, hR3.out]
        rfl
      · have h1' : (kd == last) = false := by simpa using h1
        by_cases h2 : last = 3 ∧ kd = 2
        · obtain ⟨rfl, rfl⟩ := h2
          have hR3 : Hid (R = 3) := Lib.hid (by rw [hstep.out, if_pos (.inr ⟨rfl, rfl⟩)])
          clear hrest h1 h1'
          go_wp2_with fail
          go_ret
          refine ⟨?_, hw1⟩
          rw [hck.out, hR3.out]
          rfl
        · have hR3 : Hid (R = if fitE (kd, m, t) ≠ 0 then fitE (kd, m, t) else chkL kd (l.drop (k + 1))) := Lib.hid (by rw [hstep.out, if_neg (by rintro (h | h); exact h1 h; exact h2 h)])
          obtain ⟨r, hr⟩ : ∃ r, fitE (kd, m, t) = r := ⟨_, rfl⟩
          rw [hr] at hR3
          have Hr := Lib.hid hr
          clear hrest h1 hr hstep
          by_cases h3 : last = 3
          · subst h3
            have h4 : (kd == 2) = false := by simp; omega
            clear h2
            go_wp2_with fail
            refine (fit_call kd m t r Hr.out hsz _).mono ?_
            rintro e w2 ⟨rfl, hb2⟩
            have hw2 := hw1.trans (hb2.mono hw1.size)
            have hbl2 := Hblk.out.below hb2 Hblk.out.lt
            have d0 := hbl2.cell 0
            have hlt2 := hbl2.lt
            clear hb2 hbl2
            by_cases hr0 : r = 0
            · subst hr0
              go_wp2_with fail
              go_roundw
              case rel =>
                refine ⟨k + 1, kd, by omega, by go_num, rfl, Lib.hid (by rw [hR3.out]; simp), Lib.hid ?_, hw2⟩
                intro p hp
                rw [hts.out, List.mem_append, List.mem_singleton] at hp
                rcases hp with hp | rfl
                · exact hfit.out p hp
                · exact Hr.out
              case measure => simp [intOf]; omega
            · have hr1 : (r != 0) = true := by simpa using hr0
              have hRr : Hid (R = r ∧ r ≠ 0) := Lib.hid ⟨by rw [hR3.out, if_pos hr0], hr0⟩
              clear hr0
              go_wp2_with fail
              go_ret
              refine ⟨?_, hw2⟩
              rw [hck.out, hRr.out.1, if_pos hRr.out.2]
              rfl
          · have h4 : (last == 3) = false := by simpa using h3
            clear h2 h3
            go_wp2_with fail
            refine (fit_call kd m t r Hr.out hsz _).mono ?_
            rintro e w2 ⟨rfl, hb2⟩
            have hw2 := hw1.trans (hb2.mono hw1.size)
            have hbl2 := Hblk.out.below hb2 Hblk.out.lt
            have d0 := hbl2.cell 0
            have hlt2 := hbl2.lt
            clear hb2 hbl2
            by_cases hr0 : r = 0
            · subst hr0
              go_wp2_with fail
              go_roundw
              case rel =>
                refine ⟨k + 1, kd, by omega, by go_num, rfl, Lib.hid (by rw [hR3.out]; simp), Lib.hid ?_, hw2⟩
                intro p hp
                rw [hts.out, List.mem_append, List.mem_singleton] at hp
                rcases hp with hp | rfl
                · exact hfit.out p hp
                · exact Hr.out
              case measure => simp [intOf]; omega
            · have hr1 : (r != 0) = true := by simpa using hr0
              have hRr : Hid (R = r ∧ r ≠ 0) := Lib.hid ⟨by rw [hR3.out, if_pos hr0], hr0⟩
              clear hr0
              go_wp2_with fail
              go_ret
              refine ⟨?_, hw2⟩
              rw [hck.out, hRr.out.1, if_pos hRr.out.2]
              rfl
    · have hR0 : Hid (R = 0) := Lib.hid (by rw [hrest.out, List.drop_eq_nil_of_le (by have := H.out.1; omega)]; rfl)
      have hall : ∀ p ∈ l, fitE p = 0 := by
        have := hfit.out
        rwa [List.take_of_length_le (by have := H.out.1; omega)] at this
      have Hall := Lib.hid hall
      clear hrest hall hfit
      go_wp2_with fail
      refine (sizes_any l A n c B _ (H.out.below (hbw.mono hB)) (by have := hbw.size; omega) (by omega) Hall.out).mono ?_
      rintro e w2 ⟨rfl, hb2⟩
      have hw2 := hbw.trans (hb2.mono hbw.size)
      clear hb2
      obtain ⟨M, hM⟩ : ∃ M, max (szI l) (szO l) = M := ⟨_, rfl⟩
      have HM := Lib.hid hM
      clear hM
      by_cases hM5 : 500 < M
      · go_wp2_with (first | (refine wpList_max2 rfl (.tmp 44) (.tmp 45) _ rfl _ _ _ rfl rfl HM.out ?_))
        go_ret
        exact ⟨by rw [hck.out, hR0.out, HM.out, if_neg (by simp), if_pos (show 500 < M by omega)]; rfl, hw2⟩
      · go_wp2_with (first | (refine wpList_max2 rfl (.tmp 44) (.tmp 45) _ rfl _ _ _ rfl rfl HM.out ?_))
        go_ret
        exact ⟨by rw [hck.out, hR0.out, HM.out, if_neg (by simp), if_neg (show ¬ 500 < M by omega)]; rfl, hw2⟩
/-- a right delta -/
def Good (l : List Pt) : Prop := chk l = 0
theorem good_iff (l : List Pt) : Good l ↔ l.length ≤ 1600 ∧ Adj l ∧ (∀ p ∈ l, fitE p = 0) ∧ szI l ≤ 500 ∧ szO l ≤ 500 := by
  unfold Good chk
  constructor
  · intro h
    split at h
    · omega
    · split at h
      · omega
      · split at h
        · omega
        · rename_i h1 h2 h3
          have h4 : chkL 0 l = 0 := by omega
          obtain ⟨_, _, ha, hf⟩ := (chkL_zero l 0).1 h4
          exact ⟨by omega, ha, hf, by omega, by omega⟩
  · rintro ⟨h1, h2, h3, h4, h5⟩
    have h6 : chkL 0 l = 0 := (chkL_zero l 0).2 ⟨by
      rcases l with _ | ⟨p, l⟩
      · exact .inr rfl
      · left
        have := fit_bounds p (h3 p (by simp))
        simp only [hk]
        omega, by omega, h2, h3⟩
    rw [if_neg (by omega), if_neg (by omega), if_neg (by omega)]
theorem Good.fine {l : List Pt} (h : Good l) : Fine l := fun p hp => ((fitE_zero p).1 (((good_iff l).1 h).2.2.1 p hp)).1
theorem Good.nI {l : List Pt} (h : Good l) : (nI (units l) : Int) = szI l := nI_units l h.fine
theorem Good.nO {l : List Pt} (h : Good l) : (nO (units l) : Int) = szO l := nO_units l h.fine
theorem psizes_err (l : List Pt) (A : Option Addr) (n c B : Nat) (w : World) (h : RdP w B A n c l) (hB : B ≤ w.heap.size) (hk : chk l ≠ 0) :
    Calls Try.prog 92 #[.slice A n c] w fun e w' => e = .returned (.tuple #[.int .i64 0, .int .i64 0, .int .i64 (chk l)]) ∧ Below w.heap.size w w' := by
  have H := Lib.hid h
  have hne : ((chk l) != 0) = true := by simpa using hk
  clear h hk
  go_enter Try.func92, Try.ntmps92
  go_wp2_with fail
  refine (chk_any l A n c B _ H.out hB).mono ?_
  rintro e w1 ⟨rfl, hb1⟩
  go_wp2_with fail
  go_ret3
  exact ⟨rfl, hb1⟩
theorem psizes_good (l : List Pt) (A : Option Addr) (n c B : Nat) (w : World) (h : RdP w B A n c l) (hB : B ≤ w.heap.size) (hk : chk l = 0) :
    Calls Try.prog 92 #[.slice A n c] w fun e w' => e = .returned (.tuple #[.int .i64 (nI (units l)), .int .i64 (nO (units l)), .int .i64 0]) ∧ Below w.heap.size w w' := by
  have H := Lib.hid h
  have Hk := Lib.hid hk
  have HF := Lib.hid ((good_iff l).1 hk)
  have hn : (n : Int) ≤ 2000 := by have := HF.out.1; have := h.1; omega
  clear h hk
  go_enter Try.func92, Try.ntmps92
  go_wp2_with fail
  refine (chk_any l A n c B _ H.out hB).mono ?_
  rintro e w1 ⟨rfl, hb1⟩
  rw [Hk.out]
  go_wp2_with fail
  refine (sizes_any l A n c B _ (H.out.below (hb1.mono hB)) (by have := hb1.size; omega) hn HF.out.2.2.1).mono ?_
  rintro e w2 ⟨rfl, hb2⟩
  have hb := hb1.trans (hb2.mono hb1.size)
  have e1 := Good.nI (l := l) Hk.out
  have e2 := Good.nO (l := l) Hk.out
  rw [← e1, ← e2]
  clear e1 e2
  go_wp2_with fail
  go_ret3
  exact ⟨rfl, hb⟩
end Go.Proofs.Ytokngfinnieccaa
namespace Go.Proofs.Ytokngfinnieccaa
open Go.ChangeShapes Go.WideShapes Go.RowKit
set_option linter.unusedVariables false
set_option linter.unusedSimpArgs false
set_option maxRecDepth 100000
set_option maxHeartbeats 4000000

/-- a []Part of the call's own -/
def OwnP (w : World) (B : Nat) (v : Value) (l : List Pt) : Prop := w.ownsRow B 88 3 v l.length (pc l)
theorem Try.info_part : (Try.prog.info? 88).map (fun i => (i.zero, i.size, i.bytes)) = some (some (.agg #[.int .i64 0, .int .i64 0, .string ⟨#[]⟩]), 3, 32) := by kernel_rfl
theorem pc_append (a b : List Pt) : pc (a ++ b) = pc a ++ pc b := by simp [pc]
theorem OwnP.nil (w : World) (B : Nat) : OwnP w B (.slice none 0 0) [] := World.ownsRow_nil _ _ _ _
theorem OwnP.rd {w : World} {B : Nat} {v : Value} {l : List Pt} (h : OwnP w B v l) (ht : ∀ p ∈ l, p.2.2.size ≤ 140737488351232) : ∃ A c, v = .slice A l.length c ∧ RdP w w.heap.size A l.length c l := by
  obtain ⟨A, c, e, hr⟩ := Rd.own h
  exact ⟨A, c, e, rfl, hr, ht⟩
theorem OwnP.form {w : World} {B : Nat} {v : Value} {l : List Pt} (h : OwnP w B v l) : ∃ A c, v = .slice A l.length c := by
  rcases h.2 with ⟨rfl, h0⟩ | ⟨g, cap, cur, rfl, _⟩
  · exact ⟨none, 0, by rw [h0]⟩
  · exact ⟨_, _, rfl⟩
theorem OwnP.form_ {w : World} {B n : Nat} {v : Value} {l : List Pt} (h : OwnP w B v l) (hn : l.length = n) : ∃ A c, v = .slice A n c := hn ▸ h.form
theorem wpList_app_part {ops : Array Oper} {rest : List Oper} {o : Oper} {a : Act} {Q : Exit → Act → World → Prop} (w : World) (hgd : o.guard = none) (s x : Operand)
    (ho : o.op = .call { callee := .builtin .append, args := #[s, x], argTypes := #[25, 25] })
    (B : Nat) (v : Value) (l : List Pt) (hs : a.eval s = v) (hown : OwnP w B v l)
    (k n : Int) (t : ByteArray) (c : Nat) (hx : a.eval x = .slice (some ⟨w.heap.size, 0, none⟩) 1 c)
    (hn : l.length ≤ 100000000) (hB : B ≤ w.heap.size)
    (h : ∀ v' w', OwnP w' B v' (l ++ [(k, n, t)]) → Below B w w' → w.grownBy w' v.ownBlock → (v'.ownBlock = v.ownBlock ∨ v'.ownBlock = some (w.heap.size + 1)) → wpList Try.prog ops Q rest (a.put o.dst v') w') :
    wpList Try.prog ops Q (o :: rest) a (w.alloc (.cells #[.int .i64 k, .int .i64 n, .string t] 88)) := by
  obtain ⟨i0, hi, hz0, hz1, hz2⟩ := info_parts Try.info_part
  refine wpList_app1 w hgd s x 25 ho B 88 i0 _ 3 32 Try.underlying25 hi hz0 hz1 hz2 rfl (by omega) (by omega) v _ _ hs hown _ c hx rfl (by simp [Value.oneCell']) hn hB ?_
  intro v' w' h1 h2 h3 h4
  exact h v' w' (by unfold OwnP; rw [pc_append, List.length_append]; exact h1) h2 h3 h4
theorem step_app_part {ops : Array Oper} {o : Oper} {a : Act} {K : Act → World → Prop} {Q : Exit → Act → World → Prop} {E : Prop} (w : World) (hgd : o.guard = none) (s x : Operand)
    (ho : o.op = .call { callee := .builtin .append, args := #[s, x], argTypes := #[25, 25] })
    (B : Nat) (v : Value) (l : List Pt) (hs : a.eval s = v) (hown : OwnP w B v l)
    (k n : Int) (t : ByteArray) (c : Nat) (hx : a.eval x = .slice (some ⟨w.heap.size, 0, none⟩) 1 c)
    (hn : l.length ≤ 100000000) (hB : B ≤ w.heap.size)
    (h : ∀ v' w', OwnP w' B v' (l ++ [(k, n, t)]) → Below B w w' → w.grownBy w' v.ownBlock → (v'.ownBlock = v.ownBlock ∨ v'.ownBlock = some (w.heap.size + 1)) → K (a.put o.dst v') w') :
    if Region.wanted o (yielded ops a.tmps) = true then Oper.wp Try.prog o a (w.alloc (.cells #[.int .i64 k, .int .i64 n, .string t] 88)) K Q else E := by
  obtain ⟨i0, hi, hz0, hz1, hz2⟩ := info_parts Try.info_part
  refine step_append_any _ hgd s x 25 ho B 88 i0 _ 3 32 Try.underlying25 hi hz0 hz1 hz2 rfl (by omega) v _ _ hs (hown.alloc _) (w.heap.size + 1) _ 1 c [.int .i64 k, .int .i64 n, .string t] hx ?_ (by simp [Value.oneCell']) (by simp only [maxLen]; omega) (by omega) (by simp; omega) ?_
  · refine ⟨by simp, fun _ => ⟨_, rfl, by simp, fun j u hj => ?_⟩⟩
    have e1 : (w.alloc (.cells #[.int .i64 k, .int .i64 n, .string t] 88)).heap[w.heap.size]? = some (.cells #[.int .i64 k, .int .i64 n, .string t] 88) := heap_alloc_new w _
    rw [add0, cell_of_row _ _ j _ _ _ e1]
    simpa using hj
  · intro v' w' h2 h3 h4
    have hg := grown_unalloc h3
    exact h v' w' (by unfold OwnP; rw [pc_append, List.length_append]; exact h2) (below_grown hg hB (own_ge hown)) hg (by simpa using h4)

theorem step_app_drew {ops : Array Oper} {o : Oper} {a : Act} {K : Act → World → Prop} {Q : Exit → Act → World → Prop} {E : Prop} (w : World) (hgd : o.guard = none) (s x : Operand)
    (ho : o.op = .call { callee := .builtin .append, args := #[s, x], argTypes := #[25, 25] })
    (B : Nat) (v : Value) (l : List Pt) (hs : a.eval s = v) (hown : OwnP w B v l)
    (k n : Int) (t : ByteArray) (c : Nat) (hx : a.eval x = .slice (some ⟨w.heap.size, 0, none⟩) 1 c)
    (hn : l.length ≤ 100000000) (hB : B ≤ w.heap.size)
    (h : ∀ v' w', OwnP w' B v' (l ++ [(k, n, t)]) → Below B w w' → w.grownBy w' v.ownBlock → (v'.ownBlock = v.ownBlock ∨ v'.ownBlock = some (w.heap.size + 1)) → K (a.put o.dst v') w') :
    if Region.wanted o (yielded ops a.tmps) = true then Oper.wp Try.prog o a ((w.alloc (.cells #[.int .i64 k, .int .i64 n, .string t] 88)).drew) K Q else E :=
  step_app_part w.drew hgd s x ho B v l hs hown k n t c hx hn hB fun v' w' h1 h2 h3 h4 =>
    h v' w' h1 ⟨h2.os, h2.tape, h2.output, h2.size, h2.block⟩ ⟨h3.os, h3.tape, h3.output, h3.size, h3.block⟩ h4
/-- only the blocks of S, and what is new, have turned -/
def Only (w w' : World) (S : Nat → Prop) : Prop := w'.os = w.os ∧ w'.tape = w.tape ∧ w'.output = w.output ∧ w.heap.size ≤ w'.heap.size ∧ ∀ k, k < w.heap.size → ¬ S k → w'.heap[k]? = w.heap[k]?
section
variable {w w' w'' : World} {S T : Nat → Prop}
theorem Only.refl (w : World) (S : Nat → Prop) : Only w w S := ⟨rfl, rfl, rfl, Nat.le_refl _, fun _ _ _ => rfl⟩
theorem Only.trans (h : Only w w' S) (h' : Only w' w'' S) : Only w w'' S :=
  ⟨h'.1.trans h.1, h'.2.1.trans h.2.1, h'.2.2.1.trans h.2.2.1, Nat.le_trans h.2.2.2.1 h'.2.2.2.1, fun k hk hs => (h'.2.2.2.2 k (Nat.lt_of_lt_of_le hk h.2.2.2.1) hs).trans (h.2.2.2.2 k hk hs)⟩
theorem Only.mono (h : Only w w' S) (hST : ∀ k, k < w.heap.size → S k → T k) : Only w w' T := ⟨h.1, h.2.1, h.2.2.1, h.2.2.2.1, fun k hk hs => h.2.2.2.2 k hk fun hS => hs (hST k hk hS)⟩
theorem Only.below {B : Nat} (h : Only w w' S) (hB : B ≤ w.heap.size) (hS : ∀ k, S k → B ≤ k) : Below B w w' :=
  ⟨h.1, h.2.1, h.2.2.1, h.2.2.2.1, fun k hk => h.2.2.2.2 k (by omega) fun hs => by have := hS k hs; omega⟩
theorem Only.of_below (h : Below w.heap.size w w') : Only w w' S := ⟨h.os, h.tape, h.output, h.size, fun k hk _ => h.block k hk⟩
theorem Only.of_grown {row : Option Nat} (h : w.grownBy w' row) : Only w w' (fun k => row = some k) := ⟨h.os, h.tape, h.output, h.size, fun k hk hs => h.block k hk fun e => hs e.symm⟩
theorem Only.alloc (w : World) (o : Obj) : Only w (w.alloc o) S := ⟨rfl, rfl, rfl, by simp, fun k hk _ => Below.heap_alloc w o k hk⟩
theorem Only.setCell (w : World) (p : Addr) (u : Value) (hp : S p.block) : Only w (w.setCell p u) S :=
  ⟨rfl, rfl, rfl, by simp [World.setCell], fun k _ hs => Below.heap_setCell w p u k fun e => hs (e ▸ hp)⟩
theorem Only.setSelf (w : World) (g i : Nat) (u : Value) : Only w (w.setCell ⟨g, i, none⟩ u) (fun k => k = g) := Only.setCell _ _ _ rfl
theorem Only.drew (w : World) : Only w w.drew S := ⟨rfl, rfl, rfl, Nat.le_refl _, fun _ _ _ => rfl⟩
theorem Blk.only {g : Nat} {t : TypeId} {cs : Array Value} (h : Blk w g t cs) (ho : Only w w' S) (hg : ¬ S g) : Blk w' g t cs := (ho.2.2.2.2 g h.lt hg).trans h
theorem own_only {base : Nat} {e : TypeId} {size n : Nat} {v : Value} {xs : List Value} (h : w.ownsRow base e size v n xs) (ho : Only w w' S) (hv : ∀ k, v.ownBlock = some k → ¬ S k) : w'.ownsRow base e size v n xs := by
  have hlt := own_lt h
  obtain ⟨h1, h2⟩ := h
  refine ⟨h1, ?_⟩
  rcases h2 with h2 | ⟨g, cap, cur, rfl, hg, hh, hr⟩
  · exact .inl h2
  · exact .inr ⟨g, cap, cur, rfl, hg, by rw [ho.2.2.2.2 g (hlt g rfl) (hv g rfl)]; exact hh, hr⟩
end

/-- what a Maker at block g holds, told the units us; ob: the block of its row -/
def MkS (w : World) (B g : Nat) (ob : Option Nat) (o : List Pt) (p : ByteArray) (c : Int) : Prop := ∃ v, Blk w g 105 #[v, .string p, .int .i64 c] ∧ OwnP w B v o ∧ v.ownBlock = ob
def Mk (w : World) (B g : Nat) (ob : Option Nat) (us : List U) : Prop := ∃ o p c, MkS w B g ob o p c ∧ MRep us o p c
/-- what a method of a Maker does to memory -/
def MFr (w w' : World) (g : Nat) (ob ob' : Option Nat) : Prop := Only w w' (fun k => k = g ∨ ob = some k) ∧ (ob' = ob ∨ ∀ k, ob' = some k → w.heap.size ≤ k)
theorem len_cz (us : List U) : (cz us).length = us.length := by
  have hi : ∀ us : List U, (insC us).length = us.length + 1 := by
    intro us; induction us with
    | nil => rfl
    | cons u us ih => rcases u with _ | _ | x <;> simp [insC, ih]
  induction us with
  | nil => rfl
  | cons u us ih => rcases u with _ | _ | x <;> simp [cz, ih, hi]
theorem len_addU (u : U) (l : List Pt) : (addU u l).length ≤ l.length + 1 := by
  rcases u with _ | _ | x <;> rcases l with _ | ⟨p, l⟩ <;> simp only [addU] <;> (try split) <;> simp
theorem len_grp : ∀ us : List U, (grp us).length ≤ us.length
  | [] => Nat.le_refl _
  | u :: us => by have := len_addU u (grp us); have := len_grp us; simp only [grp, List.length_cons]; omega
theorem len_units : ∀ l : List Pt, Fine l → ∀ p ∈ l, lenP p ≤ (units l).length
  | q :: l, h, p, hp => by
    rw [units_cons, List.length_append]
    rcases List.mem_cons.1 hp with rfl | hp
    · rw [up_len p (h p (by simp))]; omega
    · have := len_units l (fun x hx => h x (by simp [hx])) p hp; omega
theorem MRep.bounds {us : List U} {o : List Pt} {p : ByteArray} {c : Int} (h : MRep us o p c) : o.length ≤ us.length ∧ p.size ≤ us.length ∧ 0 ≤ c ∧ c ≤ us.length ∧ Fine o ∧ ∀ q ∈ o, lenP q ≤ us.length := by
  obtain ⟨w, rfl, hw, he, hc⟩ := h
  have hl := congrArg List.length he
  simp only [len_cz, List.length_append, pu, cu, List.length_map, List.length_replicate, bs_len] at hl
  have := len_grp w
  refine ⟨by omega, by omega, hc, by omega, fine_grp w, fun q hq => ?_⟩
  have := len_units (grp w) (fine_grp w) q hq
  rw [units_grp] at this
  omega
end Go.Proofs.Ytokngfinnieccaa
namespace Go.Proofs.Ytokngfinnieccaa
open Go.ChangeShapes Go.WideShapes Go.RowKit
set_option linter.unusedVariables false
set_option linter.unusedSimpArgs false
set_option maxRecDepth 100000
set_option maxHeartbeats 4000000

theorem below_setRow {B : Nat} {w w' : World} (h : Below B w w') (g : Nat) (cs : Array Value) (hg : B ≤ g) : Below B w (w'.setRow g cs) :=
  ⟨h.os, h.tape, h.output, by simp; exact h.size, fun k hk => (setRow_other w' g k cs (by omega)).trans (h.block k hk)⟩
/-- a whole struct is loaded -/
theorem wpList_load_blk {ops : Array Oper} {rest : List Oper} {o : Oper} {a : Act} {w : World} {Q : Exit → Act → World → Prop} (hgd : o.guard = none) (ty : TypeId) (x : Operand) (ho : o.op = .load ty x)
    (g : Nat) (hx : a.eval x = .pointer (some ⟨g, 0, none⟩)) (cs : Array Value) (hl : (loadVar ty ⟨g, 0, none⟩).run Try.prog w = .ok (.agg cs) w)
    (h : wpList Try.prog ops Q rest (a.put o.dst (.agg cs)) w) : wpList Try.prog ops Q (o :: rest) a w :=
  wpList_plain hgd fun _ hK => by
    unfold Oper.wp execOp
    simp only [ho, hx, Instr.loadAt, Instr.sureAddr, Sem.run_bind, Sem.run_pure, Result.andThen_ok, hl]
    exact hK _ _ h
/-- a struct is put together -/
theorem wpList_built {ops : Array Oper} {rest : List Oper} {o : Oper} {a : Act} {w : World} {Q : Exit → Act → World → Prop} (hgd : o.guard = none) (t : TypeId) (parts : Array (Nat × Operand)) (ho : o.op = .build t parts) (cells : Array Value)
    (hf : Try.prog.built t (parts.map fun (i, x) => (i, a.eval x)).toList = some cells)
    (h : wpList Try.prog ops Q rest (a.put o.dst (.agg cells)) w) : wpList Try.prog ops Q (o :: rest) a w :=
  wpList_build hgd t parts ho (by rw [hf]; rfl) (by rw [hf]; exact h)
theorem exec_load_blk {o : Oper} {a : Act} {w : World} (ty : TypeId) (x : Operand) (ho : o.op = .load ty x) (g : Nat) (hx : a.eval x = .pointer (some ⟨g, 0, none⟩)) (cs : Array Value)
    (hl : (loadVar ty ⟨g, 0, none⟩).run Try.prog w = .ok (.agg cs) w) : (execOp a.eval o).run Try.prog w = .ok (.value (.agg cs)) w := by
  unfold execOp
  simp only [ho, hx, Instr.loadAt, Instr.sureAddr, Sem.run_bind, Sem.run_pure, Result.andThen_ok, hl]
theorem wpAnyH_takeD {ops : Array Oper} {Q : Exit → Act → World → Prop} {md : Region.Mode} {S : World → Prop} {i : Nat} (t : Nat) {oi : Oper} {v : Value} {fuel : Nat} {listed : Array Bool} {a : Act} {w : World} (hi : ops[i]? = some oi) (hd : oi.dst = some t)
    (hs : Region.noSelect ops = true) (hf : Region.free md ops listed i = true) (hr : (Region.ready md ops listed).contains i = true)
    (hQ : ∀ c a w, Q (.panic c) (a.put (some t) v) w → Q (.panic c) a w) (hy : YieldsIf Try.prog ops S oi v a) (hS : S w)
    (h : wpAnyH Try.prog md ops Q S fuel (listed.setIfInBounds i true) (a.put (some t) v) w) : wpAnyH Try.prog md ops Q S (fuel + 1) listed a w :=
  wpAnyH_take hi hs hf hr (by rw [hd]; exact hQ) hy hS (by rw [hd]; exact h)
theorem wpOp_enter {ops : Array Oper} {i : Nat} (t : Nat) {o : Oper} {a : Act} {w : World} {K : Act → World → Prop} {Q : Exit → Act → World → Prop} (hi : ops[i]? = some o) (hw : Region.wanted o (yielded ops a.tmps) = true) (hd : o.dst = some t) (f : FuncId) (vs : Array Value)
    (hx : (execOp a.eval o).run Try.prog w = .ok (.enter f vs) w) (v : Value) (R : World → Prop) (hc : Calls Try.prog f vs w (fun e w' => e = .returned v ∧ R w')) (h : ∀ w', R w' → K (a.put (some t) v) w') : wpOp Try.prog ops Q i K a w := by
  unfold wpOp
  simp only [hi, hw, if_true]
  refine .inl ?_
  unfold Oper.wp
  rw [hx]
  simp only [Oper.upon]
  refine hc.mono ?_
  rintro e w' ⟨rfl, hr⟩
  rw [hd]
  exact h _ hr
/-- cells in the middle of a row are stored anew -/
def setL : Array Value → Nat → List Value → Array Value
  | cs, _, [] => cs
  | cs, o, v :: r => setL (cs.setIfInBounds o v) (o + 1) r
theorem Blk.setMany {w : World} {g : Nat} {t : TypeId} : ∀ (vs : List Value) (o : Nat) (w : World) (cs : Array Value), Blk w g t cs → Blk (w.setCells g o vs) g t (setL cs o vs)
  | [], o, w, cs, h => h
  | v :: r, o, w, cs, h => Blk.setMany (w := w) r (o + 1) _ _ (h.set_ o v)
theorem Only.setMany (g : Nat) : ∀ (vs : List Value) (o : Nat) (w : World), Only w (w.setCells g o vs) (fun k => k = g)
  | [], o, w => Only.refl _ _
  | v :: r, o, w => (Only.setSelf w g o v).trans (Only.setMany g r (o + 1) _)
theorem Blk.range {w : World} {g o : Nat} {t : TypeId} {cs : Array Value} {vs : List Value} (h : Blk w g t cs) (hv : ∀ j v, vs[j]? = some v → cs[o + j]? = some v) : w.rangeAt g o vs :=
  fun j v hj => (h.cell (o + j)).trans (hv j v hj)
theorem Blk.there {w : World} {g o n : Nat} {t : TypeId} {cs : Array Value} (h : Blk w g t cs) (hn : o + n ≤ cs.size) : w.there g o n := fun j hj => by
  refine ⟨?_, h.frozen (o + j)⟩
  rw [h.cell, Array.getElem?_eq_getElem (by omega)]
  rfl
theorem setL_mid : ∀ (vs M P R : List Value), vs.length = M.length → setL (P ++ (M ++ R)).toArray P.length vs = (P ++ (vs ++ R)).toArray
  | [], [], P, R, _ => rfl
  | [], _ :: _, P, R, h => by simp at h
  | _ :: _, [], P, R, h => by simp at h
  | v :: vs, m :: M, P, R, h => by
    have e : (P ++ (m :: M ++ R)).toArray.setIfInBounds P.length v = ((P ++ [v]) ++ (M ++ R)).toArray := by
      simp [List.set_append_right]
    have := setL_mid vs M (P ++ [v]) R (by simpa using h)
    rw [setL, e]
    rw [List.length_append, List.length_singleton] at this
    rw [this]
    simp
end Go.Proofs.Ytokngfinnieccaa
namespace Go.Proofs.Ytokngfinnieccaa
open Go.ChangeShapes Go.WideShapes Go.RowKit
set_option linter.unusedVariables false
set_option linter.unusedSimpArgs false
set_option maxRecDepth 100000
set_option maxHeartbeats 4000000

theorem Try.builderSize : (Try.prog.info? 155).map (·.size) = some 2 := by kernel_rfl
theorem Try.builderLies : liesAt Try.prog Try.prog.depth 155 (2 / Try.prog.cellsOf 155) 0 155 1 = true := by kernel_rfl
theorem blk_shape {w : World} {b : Nat} {t : TypeId} {x y : Value} (h : Blk w b t #[x, y]) : w.shape? b = some (t, 2) := by
  unfold Blk at h
  simp [World.shape?, h]
theorem bcheck_fresh (b : Nat) (v : Value) (w : World) (h : Blk w b 155 #[.pointer none, v]) :
    Calls Try.prog 122 #[.pointer (some ⟨b, 0, none⟩)] w fun e w' => e = .returned (.tuple #[]) ∧ w' = w.setCell ⟨b, 0, none⟩ (.pointer (some ⟨b, 0, none⟩)) := by
  obtain ⟨j, hj, hjs⟩ := Option.map_eq_some_iff.1 Try.builderSize
  have hsh := blk_shape h
  have c0 := h.cell 0
  have f0 := h.frozen 0
  have l0 := h.lt
  clear h
  go_enter Try.func122, Try.ntmps122
  go_wp2_with fail
  rw [Lib.run_to_unsafe w ⟨b, 0, none⟩ Try.underlying152 Try.underlying209 hj (by rw [hjs]; decide) hsh (Nat.zero_lt_succ 1)]
  simp only [Result.andThen]
  rw [Oper.upon_value]
  go_wp2_with fail
  rw [run_callFunc_extern Try.func129 (by kernel_rfl) (by kernel_rfl) (by kernel_rfl) (e := Extern.AbiNoEscape.same) (by kernel_rfl)]
  rw [Lib.run_noEscape]
  simp only [Result.andThen]
  rw [Oper.upon_value]
  go_wp2_with fail
  rw [Lib.run_from_unsafe w ⟨b, 0, none⟩ Try.underlying209 Try.underlying152 hj hsh Try.builderLies]
  simp only [Result.andThen]
  rw [Oper.upon_value]
  go_wp2_with fail
  go_end0
  exact ⟨rfl, rfl⟩
theorem bcheck_used (b : Nat) (v : Value) (w : World) (h : Blk w b 155 #[.pointer (some ⟨b, 0, none⟩), v]) :
    Calls Try.prog 122 #[.pointer (some ⟨b, 0, none⟩)] w fun e w' => e = .returned (.tuple #[]) ∧ w' = w := by
  obtain ⟨j, hj, hjs⟩ := Option.map_eq_some_iff.1 Try.builderSize
  have c0 := h.cell 0
  clear h
  go_enter Try.func122, Try.ntmps122
  go_wp2_with fail
  rw [Lib.run_neq_ptr_same w _ Try.underlying152 hj]
  go_wp2_with fail
  go_end0
  exact ⟨rfl, rfl⟩
/-- the builder at block b holds the bytes l -/
def Bd (w : World) (B b : Nat) (l : List UInt8) : Prop := Lib.IsBuilder 155 5 B b (Lib.byteCells l) w
theorem Bd.fresh_ (w : World) {B : Nat} (hB : B ≤ w.heap.size) : Bd (w.alloc (.cells #[.pointer none, .slice none 0 0] 155)) B w.heap.size [] :=
  .inl ⟨hB, _, heap_alloc_new w _, World.ownsRow_nil _ _ _ _, by simp [Value.ownBlock]⟩
/-- other blocks, but rows of bytes, stand -/
def BK (b : Nat) (w w' : World) : Prop := ∀ g t cs, Blk w g t cs → t ≠ 5 → g ≠ b → Blk w' g t cs
theorem BK.trans {b : Nat} {w w' w'' : World} (h : BK b w w') (h' : BK b w' w'') : BK b w w'' := fun g t cs h1 h2 h3 => h' g t cs (h g t cs h1 h2 h3) h2 h3
theorem bcheck_any (B b : Nat) (bs : List Value) (w : World) (h : Lib.IsBuilder 155 5 B b bs w) :
    Calls Try.prog 122 #[.pointer (some ⟨b, 0, none⟩)] w fun e w' => e = .returned (.tuple #[]) ∧ Lib.BuilderAt 155 5 B b (.pointer (some ⟨b, 0, none⟩)) bs w' ∧ Below B w w' ∧ BK b w w' := by
  rcases h with h | h
  · obtain ⟨hB, v, hbk, ho, hne⟩ := h
    refine (bcheck_fresh b v w hbk).mono ?_
    rintro e w' ⟨rfl, rfl⟩
    exact ⟨rfl, Lib.BuilderAt.used ⟨hB, v, hbk, ho, hne⟩ _, (Below.refl B w).setCell (p := ⟨b, 0, none⟩) hB _, fun g t cs h1 h2 h3 => h1.far h3 _⟩
  · obtain ⟨hB, v, hbk, ho, hne⟩ := h
    refine (bcheck_used b v w hbk).mono ?_
    rintro e w' ⟨rfl, rfl⟩
    exact ⟨rfl, ⟨hB, v, hbk, ho, hne⟩, Below.refl B _, fun g t cs h1 h2 h3 => h1⟩
theorem Try.info_u8b : (Try.prog.info? 5).map (fun i => (i.zero, i.size, i.bytes)) = some (some (.int .u8 0), 1, 1) := by kernel_rfl
theorem bwrite_any (B b : Nat) (l : List UInt8) (s : ByteArray) (w : World) (h : Bd w B b l) (hlen : l.length + s.size ≤ 140737488355328) (hBw : B ≤ w.heap.size) :
    Calls Try.prog 94 #[.pointer (some ⟨b, 0, none⟩), .string s] w fun e w' => e = .returned (.tuple #[.int .i64 s.size, .nilIface]) ∧ Bd w' B b (l ++ s.data.toList) ∧ Below B w w' ∧ BK b w w' := by
  obtain ⟨i0, hi, hz0, hz1, hz2⟩ := info_parts Try.info_u8b
  have Hh := Lib.hid h
  have hs : s.size ≤ 9223372036854775807 := by omega
  clear h
  have hll : (Lib.byteCells l).length = l.length := by simp [Lib.byteCells]
  go_enter Try.func94, Try.ntmps94
  go_wp2_with fail
  refine (bcheck_any B b _ _ Hh.out).mono ?_
  rintro e w1 ⟨rfl, ⟨hB, v, hbk, hown, hne⟩, hb1, hbk1⟩
  have Hbk1 := Lib.hid hbk1
  clear hbk1
  have kb : Blk w1 b 155 #[.pointer (some ⟨b, 0, none⟩), v] := hbk
  have c0 := kb.cell 0
  have c1 := kb.cell 1
  have l1 := kb.lt
  have hBw1 : B ≤ w1.heap.size := by have := hb1.size; omega
  have Kb := Lib.hid kb
  have Hown := Lib.hid hown
  clear kb hbk hown
  go_wp2_with (at_builtin; refine Lib.wpList_append_own_string _ rfl _ _ 153 9 rfl B 5 i0 Try.underlying153 Try.underlying9 hi hz0 hz1 hz2 _ _ _ rfl Hown.out s rfl ?c3 ?c4 ?c5 ?_)
  case c3 => unfold maxLen; omega
  case c4 => omega
  case c5 => exact hBw1
  intro v' w2 hown' hgrow _
  have kb2 := Kb.out.grown hgrow (Ne.symm hne)
  have hge := own_ge Hown.out
  have hne2 : v'.ownBlock ≠ some b := own_blk_ne (t := 155) hown' kb2 (by decide)
  have hb2 : Below B w1 w2 := below_grown hgrow hBw1 hge
  have d0 := kb2.cell 0
  have d1 := kb2.cell 1
  have f1 := kb2.frozen 1
  have l2 := kb2.lt
  obtain ⟨ao, n', cap, rfl⟩ : ∃ ao n' cap, v' = .slice ao n' cap := by
    rcases hown'.2 with ⟨rfl, _⟩ | ⟨g, cap, cur, rfl, _⟩
    · exact ⟨_, _, _, rfl⟩
    · exact ⟨_, _, _, rfl⟩
  have Kb2 := Lib.hid kb2
  have Hown2 := Lib.hid hown'
  have hbelow := hb1.trans hb2
  have Hbk2 : Hid (BK b w1 w2) := Lib.hid fun g t cs h1 h2 h3 => h1.grown hgrow (own_blk_ne (t := t) Hown.out h1 (Ne.symm h2)).symm
  clear kb2 hown' hgrow hb1 hb2 c0 c1
  go_wp2_with fail
  go_ret2
  refine ⟨rfl, ?_, hbelow.trans ((Below.refl B w2).setCell (p := ⟨b, 1, none⟩) hB _), (Hbk1.out.trans Hbk2.out).trans fun g t cs h1 h2 h3 => h1.far h3 _⟩
  refine .inr ⟨hB, _, Kb2.out.set_ 1 _, ?_, hne2⟩
  have h1 := own_only (w' := w2.setCell ⟨b, 1, none⟩ (.slice ao n' cap)) (S := fun k => k = b) Hown2.out ⟨rfl, rfl, rfl, by simp [World.setCell], fun k _ hs => Below.heap_setCell w2 _ _ k fun e => hs e⟩ fun k hk e => hne2 (by rw [hk, e])
  have e1 : Lib.byteCells l ++ Lib.strCells s = Lib.byteCells (l ++ s.data.toList) := by simp [Lib.byteCells, Lib.strCells]
  rw [e1] at h1
  have e2 : (Lib.byteCells (l ++ s.data.toList)).length = l.length + s.size := by simp [Lib.byteCells]
  rw [e2]
  exact h1
theorem bstring_any (B b : Nat) (l : List UInt8) (w : World) (h : Bd w B b l) (hBw : B ≤ w.heap.size) :
    Calls Try.prog 95 #[.pointer (some ⟨b, 0, none⟩)] w fun e w' => e = .returned (.string ⟨l.toArray⟩) ∧ Below B w w' := Go.Proofs.Try.Builder_String_any B b l w h hBw
theorem Bd.alloc {w : World} {B b : Nat} {l : List UInt8} (h : Bd w B b l) (o : Obj) : Bd (w.alloc o) B b l := by
  rcases h with ⟨hB, v, hbk, ho, hne⟩ | ⟨hB, v, hbk, ho, hne⟩
  · exact .inl ⟨hB, v, Blk.alloc (t := 155) hbk o, ho.alloc o, hne⟩
  · exact .inr ⟨hB, v, Blk.alloc (t := 155) hbk o, ho.alloc o, hne⟩
end Go.Proofs.Ytokngfinnieccaa
