/- Contracts of part.fit, sizes, Check, Sizes. -/
import Derived.Test.YtfncpcmaplhojaaRd
import Derived.Test.YtfncpcmaplhojaaParts
import Derived.Test.YtfncpcmaplhojaaMinMax
namespace Go.Proofs.Ytfncpcmaplhojaa
open Go.ChangeShapes Go.WideShapes Go.RowKit
set_option linter.unusedVariables false
set_option linter.unusedSimpArgs false
set_option maxRecDepth 100000
set_option maxHeartbeats 4000000

def pcells (p : Pt) : List Value := [.int .i64 p.1, .int .i64 p.2.1, .string p.2.2]
def pval (p : Pt) : Value := .agg #[.int .i64 p.1, .int .i64 p.2.1, .string p.2.2]
def pc (l : List Pt) : List Value := l.flatMap pcells
theorem pc_len (l : List Pt) : (pc l).length = l.length * 3 := by
  unfold pc
  induction l with
  | nil => rfl
  | cons p l ih => rw [List.flatMap_cons, List.length_append, ih]; simp [pcells]; omega
theorem pc_at : ∀ (l : List Pt) (k : Nat) (h : k < l.length), (pc l)[k * 3]? = some (.int .i64 l[k].1) ∧ (pc l)[k * 3 + 1]? = some (.int .i64 l[k].2.1) ∧ (pc l)[k * 3 + 2]? = some (.string l[k].2.2)
  | [], k, h => absurd h (by simp)
  | p :: l, 0, h => ⟨rfl, rfl, rfl⟩
  | p :: l, k + 1, h => by
    have := pc_at l k (by simpa using h)
    have e (j : Nat) : (pc (p :: l))[(k + 1) * 3 + j]? = (pc l)[k * 3 + j]? := by
      unfold pc
      rw [List.flatMap_cons, List.getElem?_append_right (by simp [pcells]; omega)]
      congr 1
      simp [pcells]; omega
    have e0 := e 0
    simp only [Nat.add_zero] at e0
    rw [e0, e 1, e 2]
    exact this
/-- the slice reads as the parts -/
def RdP (w : World) (B : Nat) (A : Option Addr) (n c : Nat) (l : List Pt) : Prop := n = l.length ∧ Rd w B 3 A n c (pc l) ∧ ∀ p ∈ l, p.2.2.size ≤ 140737488351232
section
variable {w w' : World} {B B' n c : Nat} {A : Option Addr} {l : List Pt}
theorem RdP.at_ (h : RdP w B A n c l) (k : Nat) (hk : k < n) :
    ∃ b o, A = some ⟨b, o, none⟩ ∧ b < B ∧ w.cell? ⟨b, o + k * 3, none⟩ = some (.int .i64 (l[k]'(by have := h.1; omega)).1) ∧ w.cell? ⟨b, o + k * 3 + 1, none⟩ = some (.int .i64 (l[k]'(by have := h.1; omega)).2.1) ∧
      w.cell? ⟨b, o + k * 3 + 2, none⟩ = some (.string (l[k]'(by have := h.1; omega)).2.2) := by
  obtain ⟨b, o, e, hb, hc⟩ := h.2.1.2.2.2 (by omega)
  obtain ⟨h1, h2, h3⟩ := pc_at l k (by have := h.1; omega)
  refine ⟨b, o, e, hb, hc _ _ h1, ?_, ?_⟩
  · have := hc _ _ h2; rwa [← Nat.add_assoc] at this
  · have := hc _ _ h3; rwa [← Nat.add_assoc] at this
theorem RdP.below (h : RdP w B A n c l) (hb : Below B w w') : RdP w' B A n c l := ⟨h.1, h.2.1.below hb, h.2.2⟩
theorem RdP.more (h : RdP w B A n c l) (hB : B ≤ B') : RdP w B' A n c l := ⟨h.1, h.2.1.more hB, h.2.2⟩
theorem RdP.alloc (h : RdP w B A n c l) (hB : B ≤ w.heap.size) (o : Obj) : RdP (w.alloc o) B A n c l := ⟨h.1, h.2.1.alloc hB o, h.2.2⟩
theorem RdP.drewN (h : RdP w B A n c l) (k : Nat) : RdP (w.drewN k) B A n c l := ⟨h.1, h.2.1.drewN k, h.2.2⟩
theorem RdP.step (h : RdP w w.heap.size A n c l) (hb : Below w.heap.size w w') : RdP w' w'.heap.size A n c l := (h.below hb).more hb.size
theorem RdP.stepA (h : RdP w w.heap.size A n c l) (o : Obj) : RdP (w.alloc o) (w.alloc o).heap.size A n c l := (h.alloc (Nat.le_refl _) o).more (by simp)
theorem RdP.le (h : RdP w B A n c l) : n ≤ 9223372036854775807 := by have := h.2.1.1; have := h.2.1.2.1; unfold maxLen at this; omega
end

theorem str_cases (t : ByteArray) : t = ⟨#[]⟩ ∨ (t.toList.isEmpty = false ∧ 1 ≤ (t.size : Int)) := by
  rcases Nat.eq_zero_or_pos t.size with h | h
  · exact .inl (emp_of_size h)
  · refine .inr ⟨?_, by omega⟩
    rw [ByteArray.toList_eq]
    rcases hl : t.data.toList with _ | ⟨x, l⟩
    · have : t.data.toList.length = 0 := by rw [hl]; rfl
      rw [bs_len] at this
      omega
    · rfl
theorem fit_any (p : Pt) (hs : p.2.2.size ≤ 9223372036854775807) (w : World) :
    Calls Try.prog 97 #[pval p] w fun e w' => e = .returned (.int .i64 (fitE p)) ∧ Below w.heap.size w w' := by
  obtain ⟨k, n, t⟩ := p
  unfold pval
  simp only at hs ⊢
  have hB : ∀ o, Below w.heap.size w (w.alloc o) := fun o => (Below.refl _ _).alloc (Nat.le_refl _) _
  have HB := Lib.hid hB
  clear hB
  obtain ⟨r, hr⟩ : ∃ r, fitE (k, n, t) = r := ⟨_, rfl⟩
  rw [hr]
  have Hr := Lib.hid hr
  clear hr
  by_cases hk1 : k = 1 ∨ k = 3
  · have hf : Hid (r = if n < 1 ∨ t.size ≠ 0 then 3 else if 500 < n then 2 else 0) := Lib.hid (by rw [← Hr.out]; unfold fitE; rw [if_pos hk1])
    by_cases hn : n < 1
    · obtain rfl : r = 3 := by rw [hf.out, if_pos (.inl hn)]
      clear hf Hr
      rcases hk1 with rfl | rfl
      all_goals
        go_enter Try.func97, Try.ntmps97
        go_wp2_with fail
        go_ret
        exact ⟨rfl, HB.out _⟩
    · rcases str_cases t with rfl | ⟨ht, ht1⟩
      · by_cases hn5 : 500 < n
        · obtain rfl : r = 2 := by rw [hf.out, if_neg (by rintro (h | h); exact hn h; exact h rfl), if_pos hn5]
          clear hf Hr
          rcases hk1 with rfl | rfl
          all_goals
            go_enter Try.func97, Try.ntmps97
            go_wp2_with fail
            go_ret
            exact ⟨rfl, HB.out _⟩
        · obtain rfl : r = 0 := by rw [hf.out, if_neg (by rintro (h | h); exact hn h; exact h rfl), if_neg hn5]
          clear hf Hr
          rcases hk1 with rfl | rfl
          all_goals
            go_enter Try.func97, Try.ntmps97
            go_wp2_with fail
            go_ret
            exact ⟨rfl, HB.out _⟩
      · obtain rfl : r = 3 := by rw [hf.out, if_pos (.inr (by omega))]
        clear hf Hr
        rcases hk1 with rfl | rfl
        all_goals
          go_enter Try.func97, Try.ntmps97
          go_wp2_with fail
          go_ret
          exact ⟨rfl, HB.out _⟩
  · by_cases hk2 : k = 2
    · subst hk2
      have hf : Hid (r = if n ≠ 0 ∨ t.size = 0 then 3 else if 500 < t.size then 2 else 0) := Lib.hid (by rw [← Hr.out]; unfold fitE; rw [if_neg (by simp), if_pos rfl])
      clear hk1
      by_cases hn : n = 0
      · subst hn
        rcases str_cases t with rfl | ⟨ht, ht1⟩
        · obtain rfl : r = 3 := by rw [hf.out, if_pos (.inr rfl)]
          clear hf Hr
          go_enter Try.func97, Try.ntmps97
          go_wp2_with fail
          go_ret
          exact ⟨rfl, HB.out _⟩
        · by_cases h5 : 500 < t.size
          · obtain rfl : r = 2 := by rw [hf.out, if_neg (by omega), if_pos h5]
            have h5' : (500 : Int) < (t.size : Int) := by omega
            clear hf Hr
            go_enter Try.func97, Try.ntmps97
            go_wp2_with fail
            go_ret
            exact ⟨rfl, HB.out _⟩
          · obtain rfl : r = 0 := by rw [hf.out, if_neg (by omega), if_neg h5]
            have h5' : (t.size : Int) ≤ 500 := by omega
            clear hf Hr
            go_enter Try.func97, Try.ntmps97
            go_wp2_with fail
            go_ret
            exact ⟨rfl, HB.out _⟩
      · obtain rfl : r = 3 := by rw [hf.out, if_pos (.inl hn)]
        have hne : (n != 0) = true := by simpa using hn
        clear hf Hr hn
        go_enter Try.func97, Try.ntmps97
        go_wp2_with fail
        go_ret
        exact ⟨rfl, HB.out _⟩
    · obtain rfl : r = 3 := by rw [← Hr.out]; unfold fitE; rw [if_neg hk1, if_neg hk2]
      have e1 : (k == 1) = false := by simp; omega
      have e2 : (k == 2) = false := by simp; omega
      have e3 : (k == 3) = false := by simp; omega
      clear Hr hk1 hk2
      go_enter Try.func97, Try.ntmps97
      go_wp2_with fail
      go_ret
      exact ⟨rfl, HB.out _⟩

theorem szI_snoc (l : List Pt) (p : Pt) : szI (l ++ [p]) = szI l + (if p.1 = 1 ∨ p.1 = 3 then p.2.1 else 0) := by
  induction l with
  | nil => simp [szI]
  | cons q l ih => simp only [List.cons_append, szI, ih]; omega
theorem szO_snoc (l : List Pt) (p : Pt) : szO (l ++ [p]) = szO l + (if p.1 = 1 then p.2.1 else if p.1 = 3 then 0 else (p.2.2.size : Int)) := by
  induction l with
  | nil => simp [szO]
  | cons q l ih => simp only [List.cons_append, szO, ih]; omega
theorem fit_bounds (p : Pt) (h : fitE p = 0) : ((p.1 = 1 ∨ p.1 = 3) ∧ 1 ≤ p.2.1 ∧ p.2.1 ≤ 500 ∧ p.2.2 = emp) ∨ (p.1 = 2 ∧ p.2.1 = 0 ∧ 1 ≤ (p.2.2.size : Int) ∧ (p.2.2.size : Int) ≤ 500) := by
  obtain ⟨h1, h2, h3⟩ := (fitE_zero p).1 h
  rcases h1 with ⟨h1, h4, h5⟩ | ⟨h1, h4, h5⟩
  · exact .inl ⟨h1, h4, h2, h5⟩
  · exact .inr ⟨h1, h4, by omega, by omega⟩
theorem sizes_any (l : List Pt) (A : Option Addr) (n c B : Nat) (w : World) (h : RdP w B A n c l) (hB : B ≤ w.heap.size) (hn : (n : Int) ≤ 2000) (hf : ∀ p ∈ l, fitE p = 0) :
    Calls Try.prog 98 #[.slice A n c] w fun e w' => e = .returned (.tuple #[.int .i64 (szI l), .int .i64 (szO l)]) ∧ Below w.heap.size w w' := by
  have H := Lib.hid h
  have HF := Lib.hid hf
  clear h hf
  go_enter Try.func98, Try.ntmps98
  go_wp2_with fail
  go_loopw [2, 3, 5, 8] (fun x y q i wr => ∃ (k : Nat) (a b : Int), k ≤ n ∧ i = .int .i64 k ∧ x = .int .i64 a ∧ y = .int .i64 b ∧ Hid (a = szI (l.take k)) ∧ Hid (b = szO (l.take k)) ∧ 0 ≤ a ∧ a ≤ 500 * k ∧ 0 ≤ b ∧ b ≤ 500 * k ∧ Below w.heap.size w wr) (fun _ _ _ i _ => n - (intOf i).toNat)
  case atStart => exact ⟨0, 0, 0, by omega, rfl, rfl, rfl, Lib.hid rfl, Lib.hid rfl, by omega, by omega, by omega, by omega, Below.refl _ _⟩
  case round =>
    obtain ⟨k, a, b, hk, rfl, rfl, rfl, ha, hb, ha0, ha1, hb0, hb1, hbw⟩ := hrel
    by_cases hlt : k < n
    · have hkl : k < l.length := by have := H.out.1; omega
      obtain ⟨g, o, rfl, hg, c0, c1, c2⟩ := (H.out.below (hbw.mono hB)).at_ k hlt
      have hfit := HF.out l[k] (List.getElem_mem hkl)
      have hts : Hid (l.take (k + 1) = l.take k ++ [l[k]]) := Lib.hid (by rw [List.take_succ_eq_append_getElem hkl])
      obtain ⟨p, hp⟩ : ∃ p, p = l[k] := ⟨_, rfl⟩
      rw [← hp] at hfit hts c0 c1 c2
      clear hp
      have hbd := fit_bounds p hfit
      obtain ⟨kd, m, t⟩ := p
      simp only at hbd c0 c1 c2
      have hk0 : (0 : Int) ≤ (k : Int) := by omega
      have hkn : (k : Int) < (n : Int) := by omega
      have hgl : g < wr.heap.size := by have := hbw.size; omega
      clear hfit
      rcases hbd with ⟨rfl | rfl, h1, h2, rfl⟩ | ⟨rfl, rfl, h1, h2⟩
      · go_wp2_with fail
        go_roundw
        case rel => exact ⟨k + 1, a + m, b + m, by omega, by go_num, rfl, rfl, Lib.hid (by rw [hts.out, szI_snoc, ← ha.out]; simp), Lib.hid (by rw [hts.out, szO_snoc, ← hb.out]; simp), by omega, by omega, by omega, by omega, hbw.alloc hbw.size _⟩
        case measure => simp [intOf]; omega
      · go_wp2_with fail
        go_roundw
        case rel => exact ⟨k + 1, a + m, b, by omega, by go_num, rfl, rfl, Lib.hid (by rw [hts.out, szI_snoc, ← ha.out]; simp), Lib.hid (by rw [hts.out, szO_snoc, ← hb.out]; simp), by omega, by omega, by omega, by omega, hbw.alloc hbw.size _⟩
        case measure => simp [intOf]; omega
      · go_wp2_with fail
        go_roundw
        case rel => exact ⟨k + 1, a, b + t.size, by omega, by go_num, rfl, rfl, Lib.hid (by rw [hts.out, szI_snoc, ← ha.out]; simp), Lib.hid (by rw [hts.out, szO_snoc, ← hb.out]; simp), by omega, by omega, by omega, by omega, hbw.alloc hbw.size _⟩
        case measure => simp [intOf]; omega
    · have hka : Hid (a = szI l) := Lib.hid (by rw [ha.out, List.take_of_length_le (by have := H.out.1; omega)])
      have hkb : Hid (b = szO l) := Lib.hid (by rw [hb.out, List.take_of_length_le (by have := H.out.1; omega)])
      clear ha hb
      go_wp2_with fail
      go_ret2
      exact ⟨by show Ending.returned (.tuple #[.int .i64 a, .int .i64 b]) = _; rw [← hka.out, ← hkb.out], hbw⟩
theorem chk_large (l : List Pt) (A : Option Addr) (n c B : Nat) (w : World) (h : RdP w B A n c l) (hn : (1600 : Int) < (n : Int)) :
    Calls Try.prog 64 #[.slice A n c] w fun e w' => e = .returned (.int .i64 (chk l)) ∧ Below w.heap.size w w' := by
  have hk : Hid (chk l = 2) := Lib.hid (by unfold chk; rw [if_pos (by have := h.1; omega)])
  rw [hk.out]
  clear h hk
  go_enter Try.func64, Try.ntmps64
  go_wp2_with fail
  go_ret
  exact ⟨rfl, Below.refl _ _⟩
theorem fit_call (k m : Int) (t : ByteArray) (r : Int) (hr : fitE (k, m, t) = r) (hs : t.size ≤ 140737488351232) (w : World) :
    Calls Try.prog 97 #[.agg #[.int .i64 k, .int .i64 m, .string t]] w fun e w' => e = .returned (.int .i64 r) ∧ Below w.heap.size w w' := by
  rw [← hr]
  exact fit_any (k, m, t) (by simp only; omega) w
theorem chk_any (l : List Pt) (A : Option Addr) (n c B : Nat) (w : World) (h : RdP w B A n c l) (hB : B ≤ w.heap.size) :
    Calls Try.prog 64 #[.slice A n c] w fun e w' => e = .returned (.int .i64 (chk l)) ∧ Below w.heap.size w w' := by
  by_cases hn : (1600 : Int) < (n : Int)
  · exact chk_large l A n c B w h hn
  have hn' : (n : Int) ≤ 1600 := by omega
  have hck : Hid (chk l = if chkL 0 l ≠ 0 then chkL 0 l else if 500 < max (szI l) (szO l) then 2 else 0) := Lib.hid (by unfold chk; rw [if_neg (by have := h.1; omega)])
  obtain ⟨R, hR⟩ : ∃ R, chkL 0 l = R := ⟨_, rfl⟩
  rw [hR] at hck
  have H := Lib.hid h
  have HR := Lib.hid hR
  clear h hn hR
  go_enter Try.func64, Try.ntmps64
  go_wp2_with fail
  go_loopw [3, 5, 6, 14] (fun x q e i wr => ∃ (k : Nat) (last : Int), k ≤ n ∧ i = .int .i64 k ∧ x = .int .i64 last ∧ Hid (R = chkL last (l.drop k)) ∧ Hid (∀ p ∈ l.take k, fitE p = 0) ∧ Below w.heap.size w wr) (fun _ _ _ i _ => n - (intOf i).toNat)
  case atStart => exact ⟨0, 0, by omega, rfl, rfl, Lib.hid (by rw [List.drop_zero, HR.out]), Lib.hid (by simp), Below.refl _ _⟩
  case round =>
    obtain ⟨k, last, hk, rfl, rfl, hrest, hfit, hbw⟩ := hrel
    by_cases hlt : k < n
    · have hkl : k < l.length := by have := H.out.1; omega
      obtain ⟨g, o, rfl, hg, c0, c1, c2⟩ := (H.out.below (hbw.mono hB)).at_ k hlt
      have hts : Hid (l.take (k + 1) = l.take k ++ [l[k]]) := Lib.hid (by rw [List.take_succ_eq_append_getElem hkl])
      have hdr : Hid (l.drop k = l[k] :: l.drop (k + 1)) := Lib.hid (List.drop_eq_getElem_cons hkl)
      have hsz := H.out.2.2 l[k] (List.getElem_mem hkl)
      obtain ⟨p, hp⟩ : ∃ p, p = l[k] := ⟨_, rfl⟩
      rw [← hp] at hts hdr c0 c1 c2 hsz
      clear hp
      obtain ⟨kd, m, t⟩ := p
      simp only at c0 c1 c2 hsz
      have hk0 : (0 : Int) ≤ (k : Int) := by omega
      have hkn : (k : Int) < (n : Int) := by omega
      have hgl : g < wr.heap.size := by have := hbw.size; omega
      have hstep : Hid (R = if kd = last ∨ (last = 3 ∧ kd = 2) then 3 else if fitE (kd, m, t) ≠ 0 then fitE (kd, m, t) else chkL kd (l.drop (k + 1))) := Lib.hid (by rw [hrest.out, hdr.out]; rfl)
      have hw1 := hbw.alloc hbw.size (.cells #[.int .i64 kd, .int .i64 m, .string t] 45)
      have hblk := Blk.new wr 45 #[.int .i64 kd, .int .i64 m, .string t]
      have Hblk := Lib.hid hblk
      clear hblk
      by_cases h1 : kd = last
      · subst h1
        have hR3 : Hid (R = 3) := Lib.hid (by rw [hstep.out, if_pos (.inl rfl)])
        clear hrest
        go_wp2_with fail
        go_ret
        refine ⟨?_, hw1⟩
        rw [hck.out, hR3.out]
        rfl
      · have h1' : (kd == last) = false := by simpa using h1
        by_cases h2 : last = 3 ∧ kd = 2
        · obtain ⟨rfl, rfl⟩ := h2
          have hR3 : Hid (R = 3) := Lib.hid (by rw [hstep.out, if_pos (.inr ⟨rfl, rfl⟩)])
          clear hrest h1 h1'
          go_wp2_with fail
          go_ret
          refine ⟨?_, hw1⟩
          rw [hck.out, hR3.out]
          rfl
        · have hR3 : Hid (R = if fitE (kd, m, t) ≠ 0 then fitE (kd, m, t) else chkL kd (l.drop (k + 1))) := Lib.hid (by rw [hstep.out, if_neg (by rintro (h | h); exact h1 h; exact h2 h)])
          obtain ⟨r, hr⟩ : ∃ r, fitE (kd, m, t) = r := ⟨_, rfl⟩
          rw [hr] at hR3
          have Hr := Lib.hid hr
          clear hrest h1 hr hstep
          by_cases h3 : last = 3
          · subst h3
            have h4 : (kd == 2) = false := by simp; omega
            clear h2
            go_wp2_with fail
            refine (fit_call kd m t r Hr.out hsz _).mono ?_
            rintro e w2 ⟨rfl, hb2⟩
            have hw2 := hw1.trans (hb2.mono hw1.size)
            have hbl2 := Hblk.out.below hb2 Hblk.out.lt
            have d0 := hbl2.cell 0
            have hlt2 := hbl2.lt
            clear hb2 hbl2
            by_cases hr0 : r = 0
            · subst hr0
              go_wp2_with fail
              go_roundw
              case rel =>
                refine ⟨k + 1, kd, by omega, by go_num, rfl, Lib.hid (by rw [hR3.out]; simp), Lib.hid ?_, hw2⟩
                intro p hp
                rw [hts.out, List.mem_append, List.mem_singleton] at hp
                rcases hp with hp | rfl
                · exact hfit.out p hp
                · exact Hr.out
              case measure => simp [intOf]; omega
            · have hr1 : (r != 0) = true := by simpa using hr0
              have hRr : Hid (R = r ∧ r ≠ 0) := Lib.hid ⟨by rw [hR3.out, if_pos hr0], hr0⟩
              clear hr0
              go_wp2_with fail
              go_ret
              refine ⟨?_, hw2⟩
              rw [hck.out, hRr.out.1, if_pos hRr.out.2]
              rfl
          · have h4 : (last == 3) = false := by simpa using h3
            clear h2 h3
            go_wp2_with fail
            refine (fit_call kd m t r Hr.out hsz _).mono ?_
            rintro e w2 ⟨rfl, hb2⟩
            have hw2 := hw1.trans (hb2.mono hw1.size)
            have hbl2 := Hblk.out.below hb2 Hblk.out.lt
            have d0 := hbl2.cell 0
            have hlt2 := hbl2.lt
            clear hb2 hbl2
            by_cases hr0 : r = 0
            · subst hr0
              go_wp2_with fail
              go_roundw
              case rel =>
                refine ⟨k + 1, kd, by omega, by go_num, rfl, Lib.hid (by rw [hR3.out]; simp), Lib.hid ?_, hw2⟩
                intro p hp
                rw [hts.out, List.mem_append, List.mem_singleton] at hp
                rcases hp with hp | rfl
                · exact hfit.out p hp
                · exact Hr.out
              case measure => simp [intOf]; omega
            · have hr1 : (r != 0) = true := by simpa using hr0
              have hRr : Hid (R = r ∧ r ≠ 0) := Lib.hid ⟨by rw [hR3.out, if_pos hr0], hr0⟩
              clear hr0
              go_wp2_with fail
              go_ret
              refine ⟨?_, hw2⟩
              rw [hck.out, hRr.out.1, if_pos hRr.out.2]
              rfl
    · have hR0 : Hid (R = 0) := Lib.hid (by rw [hrest.out, List.drop_eq_nil_of_le (by have := H.out.1; omega)]; rfl)
      have hall : ∀ p ∈ l, fitE p = 0 := by
        have := hfit.out
        rwa [List.take_of_length_le (by have := H.out.1; omega)] at this
      have Hall := Lib.hid hall
      clear hrest hall hfit
      go_wp2_with fail
      refine (sizes_any l A n c B _ (H.out.below (hbw.mono hB)) (by have := hbw.size; omega) (by omega) Hall.out).mono ?_
      rintro e w2 ⟨rfl, hb2⟩
      have hw2 := hbw.trans (hb2.mono hbw.size)
      clear hb2
      obtain ⟨M, hM⟩ : ∃ M, max (szI l) (szO l) = M := ⟨_, rfl⟩
      have HM := Lib.hid hM
      clear hM
      by_cases hM5 : 500 < M
      · go_wp2_with (first | (refine wpList_max2 rfl (.tmp 44) (.tmp 45) _ rfl _ _ _ rfl rfl HM.out ?_))
        go_ret
        exact ⟨by rw [hck.out, hR0.out, HM.out, if_neg (by simp), if_pos (show 500 < M by omega)]; rfl, hw2⟩
      · go_wp2_with (first | (refine wpList_max2 rfl (.tmp 44) (.tmp 45) _ rfl _ _ _ rfl rfl HM.out ?_))
        go_ret
        exact ⟨by rw [hck.out, hR0.out, HM.out, if_neg (by simp), if_neg (show ¬ 500 < M by omega)]; rfl, hw2⟩
/-- a right delta -/
def Good (l : List Pt) : Prop := chk l = 0
theorem good_iff (l : List Pt) : Good l ↔ l.length ≤ 1600 ∧ Adj l ∧ (∀ p ∈ l, fitE p = 0) ∧ szI l ≤ 500 ∧ szO l ≤ 500 := by
  unfold Good chk
  constructor
  · intro h
    split at h
    · omega
    · split at h
      · omega
      · split at h
        · omega
        · rename_i h1 h2 h3
          have h4 : chkL 0 l = 0 := by omega
          obtain ⟨_, _, ha, hf⟩ := (chkL_zero l 0).1 h4
          exact ⟨by omega, ha, hf, by omega, by omega⟩
  · rintro ⟨h1, h2, h3, h4, h5⟩
    have h6 : chkL 0 l = 0 := (chkL_zero l 0).2 ⟨by
      rcases l with _ | ⟨p, l⟩
      · exact .inr rfl
      · left
        have := fit_bounds p (h3 p (by simp))
        simp only [hk]
        omega, by omega, h2, h3⟩
    rw [if_neg (by omega), if_neg (by omega), if_neg (by omega)]
theorem Good.fine {l : List Pt} (h : Good l) : Fine l := fun p hp => ((fitE_zero p).1 (((good_iff l).1 h).2.2.1 p hp)).1
theorem Good.nI {l : List Pt} (h : Good l) : (nI (units l) : Int) = szI l := nI_units l h.fine
theorem Good.nO {l : List Pt} (h : Good l) : (nO (units l) : Int) = szO l := nO_units l h.fine
theorem psizes_err (l : List Pt) (A : Option Addr) (n c B : Nat) (w : World) (h : RdP w B A n c l) (hB : B ≤ w.heap.size) (hk : chk l ≠ 0) :
    Calls Try.prog 72 #[.slice A n c] w fun e w' => e = .returned (.tuple #[.int .i64 0, .int .i64 0, .int .i64 (chk l)]) ∧ Below w.heap.size w w' := by
  have H := Lib.hid h
  have hne : ((chk l) != 0) = true := by simpa using hk
  clear h hk
  go_enter Try.func72, Try.ntmps72
  go_wp2_with fail
  refine (chk_any l A n c B _ H.out hB).mono ?_
  rintro e w1 ⟨rfl, hb1⟩
  go_wp2_with fail
  go_ret3
  exact ⟨rfl, hb1⟩
theorem psizes_good (l : List Pt) (A : Option Addr) (n c B : Nat) (w : World) (h : RdP w B A n c l) (hB : B ≤ w.heap.size) (hk : chk l = 0) :
    Calls Try.prog 72 #[.slice A n c] w fun e w' => e = .returned (.tuple #[.int .i64 (nI (units l)), .int .i64 (nO (units l)), .int .i64 0]) ∧ Below w.heap.size w w' := by
  have H := Lib.hid h
  have Hk := Lib.hid hk
  have HF := Lib.hid ((good_iff l).1 hk)
  have hn : (n : Int) ≤ 2000 := by have := HF.out.1; have := h.1; omega
  clear h hk
  go_enter Try.func72, Try.ntmps72
  go_wp2_with fail
  refine (chk_any l A n c B _ H.out hB).mono ?_
  rintro e w1 ⟨rfl, hb1⟩
  rw [Hk.out]
  go_wp2_with fail
  refine (sizes_any l A n c B _ (H.out.below (hb1.mono hB)) (by have := hb1.size; omega) hn HF.out.2.2.1).mono ?_
  rintro e w2 ⟨rfl, hb2⟩
  have hb := hb1.trans (hb2.mono hb1.size)
  have e1 := Good.nI (l := l) Hk.out
  have e2 := Good.nO (l := l) Hk.out
  rw [← e1, ← e2]
  clear e1 e2
  go_wp2_with fail
  go_ret3
  exact ⟨rfl, hb⟩
end Go.Proofs.Ytfncpcmaplhojaa
