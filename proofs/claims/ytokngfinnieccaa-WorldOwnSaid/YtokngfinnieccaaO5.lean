/- What a slot says: a log as a struct of 38 cells. Contracts of code.put, code.Write. Contracts of code.Read and its reader. hot.take: a number off a text. Contract of hot.head. Contracts of part.Maker's methods: Cut, Put, flush, Keep, Done. Contracts of part.Maker's methods: Keep, Done. What part.Norm says; plain lists, no program. Contracts of part.Norm, part.Idle, scrivref.In. code.Read's contract, the result as a slice that is read. scrivkeep's helpers over room: spoil. -/
import Derived.Test.YtokngfinnieccaaO3
import Derived.Test.YtokngfinnieccaaO4
import Derived.Test.YtokngfinnieccaaO2
import Derived.StillTailTactics
namespace Go.Proofs.Ytokngfinnieccaa
open Go.ChangeShapes Go.WideShapes Go.RowKit
set_option linter.unusedVariables false
set_option linter.unusedSimpArgs false
set_option maxRecDepth 100000
set_option maxHeartbeats 4000000
abbrev Tb := List (Int × Int)
structure Lg where
 gen : Int
 base : Int
 text : ByteArray
 first : Tb
 table : Tb
 revs : List Rv
 whole : Bool
 good : Int
def tc (t : Tb) : List Value := t.flatMap fun p => [.int .i64 p.1, .int .i64 p.2]
theorem tc_len : ∀ t : Tb, (tc t).length = t.length * 2
 | [] => rfl
 | p :: t => by have := tc_len t; simp only [tc, List.flatMap_cons, List.length_append, List.length_cons, List.length_nil] at this ⊢; omega
theorem tc_cons (p : Int × Int) (t : Tb) : tc (p :: t) = .int .i64 p.1 :: .int .i64 p.2 :: tc t := rfl
theorem tc_at : ∀ (t : Tb) (i : Nat) (h : i < t.length), (tc t)[i * 2]? = some (.int .i64 t[i].1) ∧ (tc t)[i * 2 + 1]? = some (.int .i64 t[i].2)
 | [], i, h => by simp at h
 | p :: t, 0, h => ⟨rfl, rfl⟩
 | p :: t, i + 1, h => by
   have := tc_at t i (by simpa using h)
   rw [tc_cons, show (i + 1) * 2 = i * 2 + 1 + 1 by omega]
   exact this
theorem tc_set : ∀ (t : Tb) (i : Nat) (a b : Int), ((tc t).set (i * 2) (.int .i64 a)).set (i * 2 + 1) (.int .i64 b) = tc (t.set i (a, b))
 | [], i, a, b => by simp [tc]
 | p :: t, 0, a, b => rfl
 | p :: t, i + 1, a, b => by
   rw [tc_cons, show (i + 1) * 2 = i * 2 + 1 + 1 by omega]
   simp only [List.set_cons_succ]
   rw [tc_set t i a b]
   rfl
def lgl (l : Lg) (s : Sl) : List Value := [.int .i64 l.gen, .int .i64 l.base, .string l.text] ++ (tc l.first ++ (tc l.table ++ [.slice s.1 s.2.1 s.2.2, .bool l.whole, .int .i64 l.good]))
def lgc (l : Lg) (s : Sl) : Array Value := (lgl l s).toArray
def Lg8 (l : Lg) : Prop := l.first.length = 8 ∧ l.table.length = 8
section
variable {l : Lg} {s : Sl}
theorem lgl_len (h : Lg8 l) : (lgl l s).length = 38 := by simp [lgl, tc_len, h.1, h.2]
theorem lgc_size (h : Lg8 l) : (lgc l s).size = 38 := by simp [lgc, lgl_len h]
theorem lgc_at (i : Nat) : (lgc l s)[i]? = (lgl l s)[i]? := by simp [lgc]
theorem lgc_base : (lgc l s)[1]? = some (.int .i64 l.base) := rfl
theorem lgc_text : (lgc l s)[2]? = some (.string l.text) := rfl
theorem lgl_tail (h : Lg8 l) (i : Nat) : (lgl l s)[35 + i]? = ([.slice s.1 s.2.1 s.2.2, .bool l.whole, .int .i64 l.good] : List Value)[i]? := by
 unfold lgl
 rw [List.getElem?_append_right (by simp; omega), List.getElem?_append_right (by simp [tc_len, h.1]; omega), List.getElem?_append_right (by simp [tc_len, h.1, h.2]; omega)]
 congr 1
 simp [tc_len, h.1, h.2]
 omega
theorem lgc_revs (h : Lg8 l) : (lgc l s)[35]? = some (.slice s.1 s.2.1 s.2.2) := by rw [lgc_at]; exact lgl_tail h 0
theorem lgl_first (h : Lg8 l) (i : Nat) (hi : i < 16) : (lgl l s)[3 + i]? = (tc l.first)[i]? := by
 unfold lgl
 rw [List.getElem?_append_right (by simp), List.getElem?_append_left (by simp [tc_len, h.1]; omega)]
 congr 1
 simp
theorem lgl_table (h : Lg8 l) (i : Nat) (hi : i < 16) : (lgl l s)[19 + i]? = (tc l.table)[i]? := by
 unfold lgl
 rw [List.getElem?_append_right (by simp; omega), List.getElem?_append_right (by simp [tc_len, h.1]; omega), List.getElem?_append_left (by simp [tc_len, h.1, h.2]; omega)]
 congr 1
 simp [tc_len, h.1]
 omega
theorem lgc_first (h : Lg8 l) (i : Nat) (hi : i < 8) : (lgc l s)[3 + i * 2]? = some (.int .i64 (l.first[i]'(by have := h.1; omega)).1) ∧ (lgc l s)[3 + i * 2 + 1]? = some (.int .i64 (l.first[i]'(by have := h.1; omega)).2) := by
 have := tc_at l.first i (by have := h.1; omega)
 rw [lgc_at, lgc_at, Nat.add_assoc, lgl_first h _ (by omega), lgl_first h _ (by omega)]
 exact this
theorem lgc_table (h : Lg8 l) (i : Nat) (hi : i < 8) : (lgc l s)[19 + i * 2]? = some (.int .i64 (l.table[i]'(by have := h.2; omega)).1) ∧ (lgc l s)[19 + i * 2 + 1]? = some (.int .i64 (l.table[i]'(by have := h.2; omega)).2) := by
 have := tc_at l.table i (by have := h.2; omega)
 rw [lgc_at, lgc_at, Nat.add_assoc, lgl_table h _ (by omega), lgl_table h _ (by omega)]
 exact this
theorem lgl_set_tail (h : Lg8 l) (i : Nat) (v : Value) : (lgl l s).set (35 + i) v = [.int .i64 l.gen, .int .i64 l.base, .string l.text] ++ (tc l.first ++ (tc l.table ++ ([.slice s.1 s.2.1 s.2.2, .bool l.whole, .int .i64 l.good] : List Value).set i v)) := by
 unfold lgl
 rw [List.set_append_right _ _ (by simp; omega), List.set_append_right _ _ (by simp [tc_len, h.1]; omega), List.set_append_right _ _ (by simp [tc_len, h.1, h.2]; omega)]
 congr 4
 simp [tc_len, h.1, h.2]
 omega
theorem lgc_set_revs (h : Lg8 l) (A : Option Addr) (n c : Nat) : (lgc l s).setIfInBounds 35 (.slice A n c) = lgc l (A, n, c) := by
 simp only [lgc, List.setIfInBounds_toArray]
 rw [show (35 : Nat) = 35 + 0 from rfl, lgl_set_tail h]
 rfl
theorem lgc_set_table (h : Lg8 l) (i : Nat) (hi : i < 8) (a b : Int) : ((lgc l s).setIfInBounds (19 + i * 2) (.int .i64 a)).setIfInBounds (19 + i * 2 + 1) (.int .i64 b) = lgc { l with table := l.table.set i (a, b) } s := by
 simp only [lgc, List.setIfInBounds_toArray]
 unfold lgl
 rw [List.set_append_right _ _ (by simp; omega), List.set_append_right _ _ (by simp; omega), List.set_append_right _ _ (by simp [tc_len, h.1]; omega), List.set_append_right _ _ (by simp [tc_len, h.1]; omega), List.set_append_left _ _ (by simp [tc_len, h.1, h.2]; omega), List.set_append_left _ _ (by simp [tc_len, h.1, h.2]; omega)]
 simp only [List.length_cons, List.length_nil, tc_len, h.1]
 rw [show 19 + i * 2 - (0 + 1 + 1 + 1) - 8 * 2 = i * 2 by omega, show 19 + i * 2 + 1 - (0 + 1 + 1 + 1) - 8 * 2 = i * 2 + 1 by omega, tc_set]
theorem lgc_one (v : Value) (hv : v ∈ lgl l s) : v.oneCell' = true := by
 have ht : ∀ (t : Tb), ∀ u ∈ tc t, u.oneCell' = true := by
  intro t u hu
  unfold tc at hu
  obtain ⟨p, _, hp⟩ := List.mem_flatMap.1 hu
  simp only [List.mem_cons, List.not_mem_nil, or_false] at hp
  rcases hp with rfl | rfl <;> rfl
 unfold lgl at hv
 simp only [List.mem_append, List.mem_cons, List.not_mem_nil, or_false] at hv
 rcases hv with (rfl | rfl | rfl) | h | h | (rfl | rfl | rfl)
 · rfl
 · rfl
 · rfl
 · exact ht _ v h
 · exact ht _ v h
 · rfl
 · rfl
 · rfl
theorem lgc_ones : (lgc l s).all (·.oneCell') = true := Array.all_eq_true_iff_forall_mem.2 fun v hv => lgc_one v (by simpa [lgc] using hv)
end
theorem tabS_info : (Try.prog.info? 79).map (·.size) = some 16 := by kernel_rfl
def tb0 : Tb := List.replicate 8 (0, 0)
def lg0 : Lg := ⟨0, 0, ⟨#[]⟩, tb0, tb0, [], false, 0⟩
theorem lg0_8 : Lg8 lg0 := ⟨rfl, rfl⟩
theorem log_info : (Try.prog.info? 131).map (·.size) = some 38 := by kernel_rfl
theorem cput_any (n : Nat) (m : Int) (hm : m = (n : Int)) (z : ByteArray) (hz : (⟨(vi n).toArray⟩ : ByteArray) = z) (h : (n : Int) ≤ 2147483647) (w : World) :
 Calls Try.prog 77 #[.int .i64 m] w fun e w' => e = .returned (.string z) ∧ Below w.heap.size w w' := by
 subst hm
 have hc := put_good n w h
 rw [hz] at hc
 have Hc := Lib.hid hc
 clear hc hz
 go_enter Try.func77, Try.ntmps77
 go_wp2_with fail
 refine Hc.out.mono ?_
 rintro e w1 ⟨rfl, hb⟩
 go_wp2_with fail
 go_ret
 exact ⟨rfl, hb⟩
theorem vi_size (n : Nat) (z : ByteArray) (hz : (⟨(vi n).toArray⟩ : ByteArray) = z) (h : n ≤ 2147483647) : z.size ≤ 5 ∧ z.data.toList = vi n := by
 subst hz
 have := vi_len 5 n (by omega) (by omega)
 exact ⟨by rw [bs_size]; exact this, by simp⟩
theorem cwrite_good (l : List Pt) (A : Option Addr) (n c B : Nat) (w : World) (S : ByteArray) (h : RdP w B A n c l) (hB : B ≤ w.heap.size) (hk : chk l = 0) (hS : S.data.toList = wrL l) :
 Calls Try.prog 33 #[.slice A n c] w fun e w' => e = .returned (.tuple #[.string S, .int .i64 0]) ∧ Below w.heap.size w w' := by
 have H := Lib.hid h
 have Hk := Lib.hid hk
 have HF := Lib.hid (chk_parts hk).2.2.2.2.2
 have hn16 : (n : Int) ≤ 1600 := by have := (chk_parts hk).1; have := h.1; omega
 have HS := Lib.hid hS
 obtain ⟨z0, hz0⟩ : ∃ z, (⟨(vi n).toArray⟩ : ByteArray) = z := ⟨_, rfl⟩
 have hv0 := vi_size n z0 hz0 (by omega)
 have Hz0 := Lib.hid hz0
 have hz5 := hv0.1
 have Hv0 := Lib.hid hv0.2
 clear h hk hS hz0 hv0
 go_enter Try.func33, Try.ntmps33
 go_wp2_with fail
 refine (chk_any l A n c B _ H.out hB).mono ?_
 rintro e w1 ⟨rfl, hb1⟩
 rw [Hk.out]
 go_wp2_with fail
 refine (cput_any n _ rfl z0 Hz0.out (by omega) _).mono ?_
 rintro e w2 ⟨rfl, hb2⟩
 have hw2 := hb1.trans (hb2.mono hb1.size)
 clear hb1 hb2
 go_wp2_with fail
 go_loopw [5, 7, 18] (fun ov pv i wr => ∃ (k : Nat) (acc : ByteArray), k ≤ n ∧ i = .int .i64 k ∧ ov = .string acc ∧ Hid (acc.data.toList = vi n ++ (l.take k).flatMap wrP) ∧ (acc.size : Int) ≤ 5 + 505 * k ∧ Below w.heap.size w wr) (fun _ _ i _ => n - (intOf i).toNat)
 case atStart => exact ⟨0, z0, by omega, rfl, rfl, Lib.hid (by rw [Hv0.out]; simp), by omega, hw2⟩
 case round =>
  obtain ⟨k, acc, hk, rfl, rfl, hacc, hsz, hbw⟩ := hrel
  by_cases hlt : k < n
  · have hkl : k < l.length := by have := H.out.1; omega
    obtain ⟨g, o, rfl, hg, c0, c1, c2⟩ := (H.out.below (hbw.mono hB)).at_ k hlt
    have hbd := fit_bounds _ (HF.out l[k] (List.getElem_mem hkl))
    have hts : Hid ((l.take (k + 1)).flatMap wrP = (l.take k).flatMap wrP ++ wrP l[k]) := Lib.hid (by rw [List.take_succ_eq_append_getElem hkl, List.flatMap_append]; simp)
    obtain ⟨p, hp⟩ : ∃ p, p = l[k] := ⟨_, rfl⟩
    rw [← hp] at hbd hts c0 c1 c2
    clear hp
    obtain ⟨kd, m, t⟩ := p
    simp only at hbd c0 c1 c2
    have hk0 : (0 : Int) ≤ (k : Int) := by omega
    have hkn : (k : Int) < (n : Int) := by omega
    have hgl : g < wr.heap.size := by have := hbw.size; omega
    have hw1 := hbw.alloc hbw.size (.cells #[.int .i64 kd, .int .i64 m, .string t] 88)
    rcases hbd with ⟨hkd, h1, h2, rfl⟩ | ⟨rfl, rfl, h1, h2⟩
    · obtain ⟨q, rfl⟩ := Int.eq_ofNat_of_zero_le (show 0 ≤ m by omega)
      have hkd0 : kd ≠ 2 := by omega
      obtain ⟨y, hy⟩ : ∃ z, (⟨(vi (4 * q + kd.toNat)).toArray⟩ : ByteArray) = z := ⟨_, rfl⟩
      have hvy := vi_size _ y hy (by omega)
      have hy5 := hvy.1
      have hwp : wrP ((kd, (q : Int), emp) : Pt) = vi (4 * q + kd.toNat) := by unfold wrP; rw [if_neg hkd0, Int.toNat_natCast]
      have Hy := Lib.hid hy
      have Hvy := Lib.hid hvy.2
      have Hwp := Lib.hid hwp
      clear hy hvy hwp hkd0
      rcases hkd with rfl | rfl
      all_goals
       go_wp2_with fail
       refine (cput_any _ _ (by omega) y Hy.out (by omega) _).mono ?_
       rintro e w3 ⟨rfl, hb3⟩
       have hw3 := hw1.trans (hb3.mono hw1.size)
       clear hb3
       go_wp2_with fail
       go_roundw
       case rel => exact ⟨k + 1, acc ++ y, by omega, by go_num, rfl, Lib.hid (by rw [bs_append, hacc.out, Hvy.out, hts.out, Hwp.out, List.append_assoc]), by rw [ByteArray.size_append]; omega, hw3⟩
       case measure => simp [intOf]; omega
    · obtain ⟨y, hy⟩ : ∃ z, (⟨(vi (4 * t.size + 2)).toArray⟩ : ByteArray) = z := ⟨_, rfl⟩
      have hvy := vi_size _ y hy (by omega)
      have hy5 := hvy.1
      have hwp : wrP ((2, 0, t) : Pt) = vi (4 * t.size + 2) ++ t.data.toList := by unfold wrP; rw [if_pos rfl]
      have Hy := Lib.hid hy
      have Hvy := Lib.hid hvy.2
      have Hwp := Lib.hid hwp
      clear hy hvy hwp
      have hpb := Blk.new wr 88 #[.int .i64 2, .int .i64 0, .string t]
      have hp2 : (wr.alloc (.cells #[.int .i64 2, .int .i64 0, .string t] 88)).cell? ⟨wr.heap.size, 2, none⟩ = some (.string t) := hpb.cell 2
      have hpl : wr.heap.size < (wr.alloc (.cells #[.int .i64 2, .int .i64 0, .string t] 88)).heap.size := hpb.lt
      go_wp2_with fail
      generalize wr.alloc (.cells #[.int .i64 2, .int .i64 0, .string t] 88) = W1 at *
      have hput : ∀ w', (Below W1.heap.size W1 w' ∧ w'.cell? ⟨wr.heap.size, 2, none⟩ = some (.string t)) →
       Calls Try.prog 77 #[.int .i64 (4 * (t.size : Int) + 2)] w' fun e w'' => e = .returned (.string y) ∧ (Below W1.heap.size W1 w'' ∧ w''.cell? ⟨wr.heap.size, 2, none⟩ = some (.string t)) := by
       rintro w' ⟨q1, q2⟩
       refine (cput_any (4 * t.size + 2) _ (by omega) y Hy.out (by omega) w').mono ?_
       rintro e w'' ⟨rfl, hb⟩
       have := q1.size
       exact ⟨rfl, q1.trans (hb.mono (by omega)), (hb.cell (by show wr.heap.size < _; omega)).trans q2⟩
      have Hput := Lib.hid hput
      have m1 : IntKind.i64.wrap (4 * (t.size : Int)) = 4 * (t.size : Int) := IntWalk.i64_in _ (by omega)
      have m2 : IntKind.i64.wrap (4 * (t.size : Int) + 2) = 4 * (t.size : Int) + 2 := IntWalk.i64_in _ (by omega)
      have hyt : (y ++ t).size = y.size + t.size := ByteArray.size_append ..
      have hbig1 : ¬ 9223372036854775807 < y.size + t.size := by omega
      have hbig2 : ¬ 9223372036854775807 < acc.size + (y.size + t.size) := by omega
      clear hput hpb hpl
      go_region_held3 (fun w' => Below W1.heap.size W1 w' ∧ w'.cell? ⟨wr.heap.size, 2, none⟩ = some (.string t)) (first | assumption | exact ⟨Below.drew (Below.refl _ _), by assumption⟩)
       ((first | (go_at_call 77; refine (Hput.out _ (by assumption)).mono ?_; rintro e w9 ⟨rfl, hb9⟩)))
      all_goals
       have hS9 : Below W1.heap.size W1 w9 := And.left (by assumption)
       have hw9 := hw1.trans (hS9.mono hw1.size)
       go_wp2_with fail
       go_roundw
       case rel => exact ⟨k + 1, acc ++ (y ++ t), by omega, by go_num, rfl, Lib.hid (by rw [bs_append, bs_append, hacc.out, Hvy.out, hts.out, Hwp.out, List.append_assoc]), by rw [ByteArray.size_append, ByteArray.size_append]; omega, hw9⟩
       case measure => simp [intOf]; omega
  · have hfin : acc = S := bs_ext (by
     rw [hacc.out, HS.out, List.take_of_length_le (by have := H.out.1; omega)]
     unfold wrL
     rw [← H.out.1])
    subst hfin
    go_wp2_with fail
    go_ret2
    exact ⟨rfl, hbw⟩



theorem mcut_raw (g : Nat) (v : Value) (p : ByteArray) (c n : Int) (w : World) (h : Blk w g 105 #[v, .string p, .int .i64 c]) (h0 : 0 ≤ c) (h1 : c ≤ 100000000) (h2 : 0 ≤ n) (h3 : n ≤ 100000000) :
 Calls Try.prog 65 #[.pointer (some ⟨g, 0, none⟩), .int .i64 n] w fun e w' => e = .returned (.tuple #[]) ∧ w' = w.setCell ⟨g, 2, none⟩ (.int .i64 (c + n)) := by
 have c2 := h.cell 2
 have f2 := h.frozen 2
 have hl := h.lt
 clear h
 go_enter Try.func65, Try.ntmps65
 go_wp2_with fail
 go_end0
 exact ⟨rfl, rfl⟩
theorem mput_raw (g : Nat) (v : Value) (p s : ByteArray) (c : Int) (w : World) (h : Blk w g 105 #[v, .string p, .int .i64 c]) (h1 : p.size ≤ 100000000) (h2 : s.size ≤ 100000000) :
 Calls Try.prog 66 #[.pointer (some ⟨g, 0, none⟩), .string s] w fun e w' => e = .returned (.tuple #[]) ∧ w' = w.setCell ⟨g, 1, none⟩ (.string (p ++ s)) := by
 have c1 := h.cell 1
 have f1 := h.frozen 1
 have hl := h.lt
 clear h
 go_enter Try.func66, Try.ntmps66
 go_wp2_with fail
 go_end0
 exact ⟨rfl, rfl⟩
theorem mcut_any {B g : Nat} {ob : Option Nat} {us : List U} {w : World} (n : Int) (h : Mk w B g ob us) (hl : us.length ≤ 100000000) (h2 : 0 ≤ n) (h3 : n ≤ 100000000) :
 Calls Try.prog 65 #[.pointer (some ⟨g, 0, none⟩), .int .i64 n] w fun e w' => e = .returned (.tuple #[]) ∧ Mk w' B g ob (us ++ cu n) ∧ Only w w' (fun k => k = g ∨ ob = some k) := by
 obtain ⟨o, p, c, ⟨v, hb, ho, hob⟩, hr⟩ := h
 obtain ⟨_, _, h4, h5, _, _⟩ := hr.bounds
 refine (mcut_raw g v p c n w hb h4 (by omega) h2 h3).mono ?_
 rintro e w' ⟨rfl, rfl⟩
 have hs : Only w (w.setCell ⟨g, 2, none⟩ (.int .i64 (c + n))) (fun k => k = g) := Only.setCell _ _ _ rfl
 refine ⟨rfl, ⟨o, p, c + n, ⟨v, hb.set_ 2 _, ?_, hob⟩, hr.cut h2⟩, hs.mono fun k _ h => .inl h⟩
 exact own_only ho hs fun k hk he => own_blk_ne (t := 105) ho hb (by decide) (by rw [hk, he])
theorem mput_any {B g : Nat} {ob : Option Nat} {us : List U} {w : World} (s : ByteArray) (h : Mk w B g ob us) (hl : us.length ≤ 100000000) (h3 : s.size ≤ 100000000) :
 Calls Try.prog 66 #[.pointer (some ⟨g, 0, none⟩), .string s] w fun e w' => e = .returned (.tuple #[]) ∧ Mk w' B g ob (us ++ pu s) ∧ Only w w' (fun k => k = g ∨ ob = some k) := by
 obtain ⟨o, p, c, ⟨v, hb, ho, hob⟩, hr⟩ := h
 obtain ⟨_, h4, _, _, _, _⟩ := hr.bounds
 refine (mput_raw g v p s c w hb (by omega) h3).mono ?_
 rintro e w' ⟨rfl, rfl⟩
 have hs : Only w (w.setCell ⟨g, 1, none⟩ (.string (p ++ s))) (fun k => k = g) := Only.setCell _ _ _ rfl
 refine ⟨rfl, ⟨o, p ++ s, c, ⟨v, hb.set_ 1 _, ?_, hob⟩, hr.put s⟩, hs.mono fun k _ h => .inl h⟩
 exact own_only ho hs fun k hk he => own_blk_ne (t := 105) ho hb (by decide) (by rw [hk, he])
def FlP (w : World) (B g : Nat) (ob : Option Nat) (o : List Pt) (w' : World) : Prop := ∃ ob', MkS w' B g ob' o emp 0 ∧ MFr w w' g ob ob'
theorem MFr.refl (w : World) (g : Nat) (ob : Option Nat) : MFr w w g ob ob := ⟨Only.refl _ _, .inl rfl⟩
theorem MFr.trans {w w' w'' : World} {g : Nat} {a b c : Option Nat} (h : MFr w w' g a b) (h' : MFr w' w'' g b c) : MFr w w'' g a c := by
 obtain ⟨h1, h2⟩ := h
 obtain ⟨h3, h4⟩ := h'
 have hsz := h1.2.2.2.1
 refine ⟨?_, ?_⟩
 · refine ⟨h3.1.trans h1.1, h3.2.1.trans h1.2.1, h3.2.2.1.trans h1.2.2.1, Nat.le_trans hsz h3.2.2.2.1, fun k hk hs => ?_⟩
   refine (h3.2.2.2.2 k (by omega) ?_).trans (h1.2.2.2.2 k hk hs)
   rintro (rfl | hb)
   · exact hs (.inl rfl)
   · rcases h2 with rfl | h2
     · exact hs (.inr hb)
     · have := h2 k hb; omega
 · rcases h4 with rfl | h4
   · exact h2
   · exact .inr fun k hk => Nat.le_trans hsz (h4 k hk)
theorem MFr.of_only {w w' : World} {g : Nat} {ob : Option Nat} (h : Only w w' (fun k => k = g)) : MFr w w' g ob ob := ⟨h.mono fun _ _ h => .inl h, .inl rfl⟩
theorem fl_app {w w1 : World} {B g : Nat} {ob : Option Nat} {v v1 P C : Value} {o o1 : List Pt} (hb : Blk w g 105 #[v, P, C]) (ho : OwnP w B v o) (hob : v.ownBlock = ob) (h1 : OwnP w1 B v1 o1) (h3 : w.grownBy w1 v.ownBlock)
 (h4 : v1.ownBlock = v.ownBlock ∨ v1.ownBlock = some (w.heap.size + 1)) :
 Blk (w1.setCell ⟨g, 0, none⟩ v1) g 105 #[v1, P, C] ∧ OwnP (w1.setCell ⟨g, 0, none⟩ v1) B v1 o1 ∧ MFr w (w1.setCell ⟨g, 0, none⟩ v1) g ob v1.ownBlock := by
 subst hob
 have hne : some g ≠ v.ownBlock := Ne.symm (own_blk_ne (t := 105) ho hb (by decide))
 have hb1 := hb.grown h3 hne
 have hs := Only.setSelf w1 g 0 v1
 refine ⟨hb1.set_ 0 v1, own_only h1 hs fun k hk he => own_blk_ne (t := 105) h1 hb1 (by decide) (by rw [hk, he]), ?_, ?_⟩
 · exact ((Only.of_grown h3).mono fun k _ h => .inr h).trans (hs.mono fun k _ h => .inl h)
 · rcases h4 with h4 | h4
   · exact .inl h4
   · exact .inr fun k hk => by rw [h4] at hk; injection hk with hk; omega
theorem fl_clear {w : World} {B g : Nat} {v P C : Value} {o : List Pt} (hb : Blk w g 105 #[v, P, C]) (ho : OwnP w B v o) :
 MkS ((w.setCell ⟨g, 1, none⟩ (.string ⟨#[]⟩)).setCell ⟨g, 2, none⟩ (.int .i64 0)) B g v.ownBlock o emp 0 ∧ MFr w ((w.setCell ⟨g, 1, none⟩ (.string ⟨#[]⟩)).setCell ⟨g, 2, none⟩ (.int .i64 0)) g v.ownBlock v.ownBlock := by
 have hs : Only w ((w.setCell ⟨g, 1, none⟩ (.string ⟨#[]⟩)).setCell ⟨g, 2, none⟩ (.int .i64 0)) (fun k => k = g) := (Only.setSelf _ _ _ _).trans (Only.setSelf _ _ _ _)
 exact ⟨⟨v, (hb.set_ 1 _).set_ 2 _, own_only ho hs fun k hk he => own_blk_ne (t := 105) ho hb (by decide) (by rw [hk, he]), rfl⟩, MFr.of_only hs⟩
theorem flush_none (g : Nat) (v : Value) (o : List Pt) (B : Nat) (ob : Option Nat) (c : Int) (w : World) (hb : Blk w g 105 #[v, .string ⟨#[]⟩, .int .i64 c]) (ho : OwnP w B v o) (hob : v.ownBlock = ob) (hc : c ≤ 0) :
 Calls Try.prog 99 #[.pointer (some ⟨g, 0, none⟩)] w fun e w' => e = .returned (.tuple #[]) ∧ FlP w B g ob o w' := by
 have c1 := hb.cell 1
 have f1 := hb.frozen 1
 have c2 := hb.cell 2
 have f2 := hb.frozen 2
 have hl := hb.lt
 have Hb := Lib.hid hb
 have Ho := Lib.hid ho
 have Hob := Lib.hid hob
 clear hb ho hob
 go_enter Try.func99, Try.ntmps99
 go_wp2_with fail
 go_end0
 have hs : Only w ((w.setCell ⟨g, 1, none⟩ (.string ⟨#[]⟩)).setCell ⟨g, 2, none⟩ (.int .i64 0)) (fun k => k = g) := (Only.setSelf _ _ _ _).trans (Only.setSelf _ _ _ _)
 refine ⟨rfl, ob, ⟨v, (Hb.out.set_ 1 _).set_ 2 _, ?_, Hob.out⟩, hs.mono fun k _ h => .inl h, .inl rfl⟩
 exact own_only Ho.out hs fun k hk he => own_blk_ne (t := 105) Ho.out Hb.out (by decide) (by rw [hk, he])
theorem flush_put (g : Nat) (v : Value) (o : List Pt) (B : Nat) (ob : Option Nat) (p : ByteArray) (c : Int) (w : World) (hb : Blk w g 105 #[v, .string p, .int .i64 c]) (ho : OwnP w B v o) (hob : v.ownBlock = ob) (hc : c ≤ 0)
 (hp : p.toList.isEmpty = false) (hlen0 : o.length ≤ 100000000) (hB0 : B ≤ w.heap.size) :
 Calls Try.prog 99 #[.pointer (some ⟨g, 0, none⟩)] w fun e w' => e = .returned (.tuple #[]) ∧ FlP w B g ob (o ++ [(2, 0, p)]) w' := by
 have c0 := hb.cell 0
 have f0 := hb.frozen 0
 have c1 := hb.cell 1
 have f1 := hb.frozen 1
 have c2 := hb.cell 2
 have f2 := hb.frozen 2
 have hl := hb.lt
 obtain ⟨A, cp, hv⟩ := ho.form
 subst hv
 have Hne0 := Lib.hid (Ne.symm (own_blk_ne (t := 105) ho hb (by decide)))
 have Hb0 := Lib.hid hb
 have Ho0 := Lib.hid ho
 have Hob := Lib.hid hob
 clear hb ho hob
 go_enter Try.func99, Try.ntmps99
 go_wp2_with fail
 go_region_law (first | (refine step_app_drew _ rfl (.tmp 11) (.tmp 17) rfl B _ o (by simp [Act.eval, Act.put]) Ho0.out 2 0 p 1 (by simp [Act.eval, Act.put]) (by omega) hB0 ?_; intro v1 w1 g1 g2 g3 g4; obtain ⟨A1, c1', rfl⟩ := g1.form_ (n := o.length + 1) (by simp); have hb1 := Blk.grown Hb0.out g3 Hne0.out; have d0 := hb1.cell 0; have d1 := hb1.cell 1; have d2 := hb1.cell 2; have e0 := hb1.frozen 0; have e1 := hb1.frozen 1; have e2 := hb1.frozen 2; have l1 := hb1.lt))
 all_goals
  have Hb1 := Lib.hid (fl_app Hb0.out Ho0.out Hob.out g1 g3 g4)
  clear hb1 g1 g2 g3 g4
  go_wp2_with fail
  go_end0
  refine ⟨rfl, _, (fl_clear Hb1.out.1 Hb1.out.2.1).1, Hb1.out.2.2.trans (fl_clear Hb1.out.1 Hb1.out.2.1).2⟩
theorem flush_cut (g : Nat) (v : Value) (o : List Pt) (B : Nat) (ob : Option Nat) (c : Int) (w : World) (hb : Blk w g 105 #[v, .string ⟨#[]⟩, .int .i64 c]) (ho : OwnP w B v o) (hob : v.ownBlock = ob) (hc : 0 < c)
 (hlen0 : o.length ≤ 100000000) (hB0 : B ≤ w.heap.size) :
 Calls Try.prog 99 #[.pointer (some ⟨g, 0, none⟩)] w fun e w' => e = .returned (.tuple #[]) ∧ FlP w B g ob (o ++ [(3, c, ⟨#[]⟩)]) w' := by
 have c0 := hb.cell 0
 have f0 := hb.frozen 0
 have c1 := hb.cell 1
 have f1 := hb.frozen 1
 have c2 := hb.cell 2
 have f2 := hb.frozen 2
 have hl := hb.lt
 obtain ⟨A, cp, hv⟩ := ho.form
 subst hv
 have Hne0 := Lib.hid (Ne.symm (own_blk_ne (t := 105) ho hb (by decide)))
 have Hb0 := Lib.hid hb
 have Ho0 := Lib.hid ho
 have Hob := Lib.hid hob
 clear hb ho hob
 go_enter Try.func99, Try.ntmps99
 go_wp2_with fail
 go_region_law (first | (refine step_app_drew _ rfl (.tmp 30) (.tmp 36) rfl B _ o (by simp [Act.eval, Act.put]) Ho0.out 3 c ⟨#[]⟩ 1 (by simp [Act.eval, Act.put]) (by omega) hB0 ?_; intro v1 w1 g1 g2 g3 g4; obtain ⟨A1, c1', rfl⟩ := g1.form_ (n := o.length + 1) (by simp); have hb1 := Blk.grown Hb0.out g3 Hne0.out; have d0 := hb1.cell 0; have d1 := hb1.cell 1; have d2 := hb1.cell 2; have e0 := hb1.frozen 0; have e1 := hb1.frozen 1; have e2 := hb1.frozen 2; have l1 := hb1.lt))
 all_goals
  have Hb1 := Lib.hid (fl_app Hb0.out Ho0.out Hob.out g1 g3 g4)
  clear hb1 g1 g2 g3 g4
  go_wp2_with fail
  go_end0
  refine ⟨rfl, _, (fl_clear Hb1.out.1 Hb1.out.2.1).1, Hb1.out.2.2.trans (fl_clear Hb1.out.1 Hb1.out.2.1).2⟩
theorem flush_both (g : Nat) (v : Value) (o : List Pt) (B : Nat) (ob : Option Nat) (p : ByteArray) (c : Int) (w : World) (hb : Blk w g 105 #[v, .string p, .int .i64 c]) (ho : OwnP w B v o) (hob : v.ownBlock = ob) (hc : 0 < c)
 (hp : p.toList.isEmpty = false) (hlen0 : o.length ≤ 99999999) (hB0 : B ≤ w.heap.size) :
 Calls Try.prog 99 #[.pointer (some ⟨g, 0, none⟩)] w fun e w' => e = .returned (.tuple #[]) ∧ FlP w B g ob (o ++ [(2, 0, p)] ++ [(3, c, ⟨#[]⟩)]) w' := by
 have c0 := hb.cell 0
 have f0 := hb.frozen 0
 have c1 := hb.cell 1
 have f1 := hb.frozen 1
 have c2 := hb.cell 2
 have f2 := hb.frozen 2
 have hl := hb.lt
 obtain ⟨A, cp, hv⟩ := ho.form
 subst hv
 have Hne0 := Lib.hid (Ne.symm (own_blk_ne (t := 105) ho hb (by decide)))
 have Hb0 := Lib.hid hb
 have Ho0 := Lib.hid ho
 have Hob := Lib.hid hob
 clear hb ho hob
 go_enter Try.func99, Try.ntmps99
 go_wp2_with fail
 go_region_law (first | (refine step_app_drew _ rfl (.tmp 11) (.tmp 17) rfl B _ o (by simp [Act.eval, Act.put]) Ho0.out 2 0 p 1 (by simp [Act.eval, Act.put]) (by omega) hB0 ?_; intro v1 w1 g1 g2 g3 g4; obtain ⟨A1, c1', rfl⟩ := g1.form_ (n := o.length + 1) (by simp); have hb1 := Blk.grown Hb0.out g3 Hne0.out; have d0 := hb1.cell 0; have d1 := hb1.cell 1; have d2 := hb1.cell 2; have e0 := hb1.frozen 0; have e1 := hb1.frozen 1; have e2 := hb1.frozen 2; have l1 := hb1.lt))
 all_goals
  have Hb1 := Lib.hid (fl_app Hb0.out Ho0.out Hob.out g1 g3 g4)
  have hB1 : B ≤ w1.heap.size := by have := g2.size; omega
  clear hb1 g1 g2 g3 g4 c0 c1 c2 f0 f1 f2 hl
  go_wp2_with fail
  have hsz1 : (w1.setCell ⟨g, 0, none⟩ (.slice A1 (o.length + 1) c1')).heap.size = w1.heap.size := by simp [World.setCell]
  rw [← hsz1] at hB1
  clear hsz1 d0 d1 d2 e0 e1 e2 l1
  generalize w1.setCell ⟨g, 0, none⟩ (.slice A1 (o.length + 1) c1') = W1 at *
  have hb := Hb1.out.1
  have ho := Hb1.out.2.1
  have c0 := hb.cell 0
  have f0 := hb.frozen 0
  have c1 := hb.cell 1
  have f1 := hb.frozen 1
  have c2 := hb.cell 2
  have f2 := hb.frozen 2
  have hl := hb.lt
  have hlen1 : (o ++ [((2, 0, p) : Pt)]).length ≤ 100000000 := by rw [List.length_append, List.length_singleton]; omega
  have Hne1 := Lib.hid (Ne.symm (own_blk_ne (t := 105) ho hb (by decide)))
  have Hbb1 := Lib.hid hb
  have Ho1 := Lib.hid ho
  clear hb ho
  go_region_law (first | (refine step_app_drew _ rfl (.tmp 30) (.tmp 36) rfl B _ (o ++ [((2, 0, p) : Pt)]) (by simp [Act.eval, Act.put]) Ho1.out 3 c ⟨#[]⟩ 1 (by simp [Act.eval, Act.put]) hlen1 hB1 ?_; intro v1 w1 g1 g2 g3 g4; obtain ⟨A2, c2', rfl⟩ := g1.form_ (n := o.length + 2) (by simp); have hb1 := Blk.grown Hbb1.out g3 Hne1.out; have d0 := hb1.cell 0; have d1 := hb1.cell 1; have d2 := hb1.cell 2; have e0 := hb1.frozen 0; have e1 := hb1.frozen 1; have e2 := hb1.frozen 2; have l1 := hb1.lt))
  all_goals
   have Hb2 := Lib.hid (fl_app Hbb1.out Ho1.out rfl g1 g3 g4)
   clear hb1 g1 g2 g3 g4
   go_wp2_with fail
   go_end0
   refine ⟨rfl, _, (fl_clear Hb2.out.1 Hb2.out.2.1).1, Hb1.out.2.2.trans (Hb2.out.2.2.trans (fl_clear Hb2.out.1 Hb2.out.2.1).2)⟩
theorem bump_snoc (n : Int) (l : List Pt) (p : Pt) : bump n (l ++ [p]) = if p.1 = 1 then l ++ [(1, p.2.1 + n, emp)] else l ++ [p] ++ [(1, n, emp)] := by
 induction l with
 | nil => simp only [List.nil_append, bump]; split <;> rfl
 | cons q l ih =>
   rcases hl : l ++ [p] with _ | ⟨x, r⟩
   · simp at hl
   · have e : bump n (q :: l ++ [p]) = q :: bump n (l ++ [p]) := by
      rw [List.cons_append, hl]; rfl
     rw [e, ih]
     split <;> simp
theorem pc_set (I : List Pt) (k m u : Int) (t : ByteArray) : (pc (I ++ [(k, m, t)])).set (I.length * 3 + 1) (.int .i64 u) = pc (I ++ [(k, u, t)]) := by
 rw [pc_append, pc_append, List.set_append_right _ _ (by rw [pc_len]; omega), pc_len, show I.length * 3 + 1 - I.length * 3 = 1 by omega]
 rfl
theorem keep_last {w : World} {B g h cp : Nat} {I : List Pt} {m n : Int} {t : ByteArray} {P C : Value} (hb : Blk w g 105 #[.slice (some ⟨h, 0, none⟩) (I.length + 1) cp, P, C])
 (ho : OwnP w B (.slice (some ⟨h, 0, none⟩) (I.length + 1) cp) (I ++ [(1, m, t)])) (hgh : g ≠ h) :
 Blk (w.setCell ⟨h, I.length * 3 + 1, none⟩ (.int .i64 (m + n))) g 105 #[.slice (some ⟨h, 0, none⟩) (I.length + 1) cp, P, C] ∧
  OwnP (w.setCell ⟨h, I.length * 3 + 1, none⟩ (.int .i64 (m + n))) B (.slice (some ⟨h, 0, none⟩) (I.length + 1) cp) (I ++ [(1, m + n, t)]) ∧
  MFr w (w.setCell ⟨h, I.length * 3 + 1, none⟩ (.int .i64 (m + n))) g (some h) (some h) := by
 refine ⟨hb.far hgh _, ?_, ?_, .inl rfl⟩
 · unfold OwnP at ho ⊢
   rw [List.length_append, List.length_singleton] at ho ⊢
   have := (World.ownsRow.stored ho (I.length * 3 + 1) (.int .i64 (m + n))).1
   rwa [pc_set] at this
 · exact (Only.setSelf w h (I.length * 3 + 1) (.int .i64 (m + n))).mono fun k _ hk => .inr (by rw [hk])
theorem flush_any {B g : Nat} {ob : Option Nat} {us : List U} {o : List Pt} {p : ByteArray} {c : Int} {w : World} (h : MkS w B g ob o p c) (hr : MRep us o p c) (hl : us.length ≤ 99999999) (hB : B ≤ w.heap.size) :
 Calls Try.prog 99 #[.pointer (some ⟨g, 0, none⟩)] w fun e w' => e = .returned (.tuple #[]) ∧ FlP w B g ob (grp (cz us)) w' := by
 rw [← hr.flush]
 obtain ⟨v, hb, ho, hob⟩ := h
 obtain ⟨h1, _, h3, _, _, _⟩ := hr.bounds
 unfold pend
 rcases str_cases p with rfl | ⟨hp, hp1⟩
 · rw [if_pos (show (⟨#[]⟩ : ByteArray).size = 0 from rfl), List.nil_append]
   by_cases hc : 0 < c
   · rw [if_pos hc]
     exact flush_cut g v o B ob c w hb ho hob hc (by omega) hB
   · rw [if_neg hc, List.append_nil]
     exact flush_none g v o B ob c w hb ho hob (by omega)
 · rw [if_neg (by omega)]
   by_cases hc : 0 < c
   · rw [if_pos hc, ← List.append_assoc]
     exact flush_both g v o B ob p c w hb ho hob hc hp (by omega) hB
   · rw [if_neg hc, List.append_nil]
     exact flush_put g v o B ob p c w hb ho hob (by omega) hp (by omega) hB
theorem mdone_any {B g : Nat} {ob : Option Nat} {us : List U} {w : World} (h : Mk w B g ob us) (hl : us.length ≤ 99999999) (hB : B ≤ w.heap.size) :
 Calls Try.prog 67 #[.pointer (some ⟨g, 0, none⟩)] w fun e w' => ∃ v ob', e = .returned v ∧ OwnP w' B v (grp (cz us)) ∧ v.ownBlock = ob' ∧ MFr w w' g ob ob' := by
 obtain ⟨o, p, c, hs, hr⟩ := h
 have Hs := Lib.hid hs
 have Hr := Lib.hid hr
 clear hs hr
 go_enter Try.func67, Try.ntmps67
 go_wp2_with fail
 refine (flush_any Hs.out Hr.out hl hB).mono ?_
 rintro e w1 ⟨rfl, ob1, ⟨v, hb, ho, hob⟩, hfr⟩
 have c0 := hb.cell 0
 have hl1 := hb.lt
 have Hfin : Hid (∃ v_1 ob', Ending.returned v = .returned v_1 ∧ OwnP w1 B v_1 (grp (cz us)) ∧ v_1.ownBlock = ob' ∧ MFr w w1 g ob ob') := Lib.hid ⟨v, ob1, rfl, ho, hob, hfr⟩
 obtain ⟨A1, c1, hv⟩ := ho.form
 subst hv
 clear hb ho hob hfr
 go_wp2_with fail
 go_ret
 exact Hfin.out
theorem mkeep_zero {B g : Nat} {ob : Option Nat} {us : List U} {w : World} (h : Mk w B g ob us) :
 Calls Try.prog 64 #[.pointer (some ⟨g, 0, none⟩), .int .i64 0] w fun e w' => e = .returned (.tuple #[]) ∧ w = w' := by
 clear h
 go_enter Try.func64, Try.ntmps64
 go_wp2_with fail
 refine bodyPost_ret (results_none rfl _ _ _) rfl ?_
 exact ⟨rfl, rfl⟩
theorem mkeep_pos {B g : Nat} {ob : Option Nat} {us : List U} {w : World} (n : Int) (h : Mk w B g ob us) (hl : us.length ≤ 99999990) (hB : B ≤ w.heap.size) (hn : 0 < n) (hn2 : n ≤ 100000000) :
 Calls Try.prog 64 #[.pointer (some ⟨g, 0, none⟩), .int .i64 n] w fun e w' => e = .returned (.tuple #[]) ∧ ∃ ob', Mk w' B g ob' (us ++ ku n) ∧ MFr w w' g ob ob' := by
 obtain ⟨o, p, c, hs, hr⟩ := h
 have hk := hr.keep hn
 rw [hr.flush] at hk
 have Hk := Lib.hid hk
 have Hs := Lib.hid hs
 have Hr := Lib.hid hr
 have hne : (n == 0) = false := by simp; omega
 have hfine := fine_grp (cz us)
 have hbd := len_units (grp (cz us)) hfine
 rw [units_grp, len_cz] at hbd
 have Hlg := Lib.hid (len_grp (cz us))
 have Hlc := Lib.hid (len_cz us)
 have Hfine := Lib.hid hfine
 have Hbd := Lib.hid hbd
 clear hs hr hk hfine hbd
 go_enter Try.func64, Try.ntmps64
 go_wp2_with fail
 refine (flush_any Hs.out Hr.out (by omega) hB).mono ?_
 rintro e w1 ⟨rfl, ob1, ⟨v, hb, ho, hob⟩, hfr⟩
 have hB1 : B ≤ w1.heap.size := by have := hfr.1.2.2.2.1; omega
 generalize hO : grp (cz us) = O at *
 have hlenO : O.length ≤ 99999990 := by have := Hlg.out; have := Hlc.out; omega
 clear hO
 have Hfr := Lib.hid hfr
 have Hob := Lib.hid hob
 have c0 := hb.cell 0
 have f0 := hb.frozen 0
 have c1 := hb.cell 1
 have c2 := hb.cell 2
 have hl1 := hb.lt
 have Hne := Lib.hid (Ne.symm (own_blk_ne (t := 105) ho hb (by decide)))
 have Hb := Lib.hid hb
 have Ho := Lib.hid ho
 clear hb hob hfr
 rcases List.eq_nil_or_concat O with rfl | ⟨I, l, rfl⟩
 · obtain ⟨A, cp, hv⟩ := ho.form_ (n := 0) rfl
   subst hv
   clear ho
   have hbn : Hid (bump n [] = [] ++ [(1, n, emp)]) := Lib.hid rfl
   go_wp2_with (first | (at_builtin; refine wpList_app_part _ rfl (.tmp 44) (.tmp 47) rfl B _ [] rfl Ho.out 1 n ⟨#[]⟩ 1 rfl (by simp) hB1 ?_; intro v2 w2 g1 g2 g3 g4; obtain ⟨A2, c2', rfl⟩ := g1.form_ (n := 1) rfl; have hb1 := Blk.grown Hb.out g3 Hne.out; have d0 := hb1.cell 0; have d1 := hb1.cell 1; have d2 := hb1.cell 2; have e0 := hb1.frozen 0; have e1 := hb1.frozen 1; have e2 := hb1.frozen 2; have l1 := hb1.lt))
   go_end0
   have Hf := fl_app Hb.out Ho.out Hob.out g1 g3 g4
   exact ⟨rfl, _, ⟨_, _, _, ⟨_, Hf.1, Hf.2.1, rfl⟩, by have := Hk.out; rw [hbn.out] at this; exact this⟩, Hfr.out.trans Hf.2.2⟩
 · rw [List.concat_eq_append] at *
   have hpc : pc (I ++ [l]) ≠ [] := by rw [pc_append]; simp [pc, pcells]
   obtain ⟨h, cp, hv0, hnc, hcm⟩ := own_nil ho hpc
   have hv := hv0
   rw [List.length_append, List.length_singleton] at hv hlenO
   subst hv
   have hcell := fun j hj => World.ownsRow.cellAt (show w1.ownsRow B 88 3 (.slice (some ⟨h, 0, none⟩) (I.length + 1) cp) (I.length + 1) (pc (I ++ [l])) from by have := ho; unfold OwnP at this; rwa [List.length_append, List.length_singleton] at this) j hj
   have hlast : (I ++ [l])[I.length]'(by simp) = l := by simp
   obtain ⟨p0, p1, p2⟩ := pc_at (I ++ [l]) I.length (by simp)
   rw [hlast] at p0 p1 p2
   have hc0 := (hcell (I.length * 3) (by omega)).trans p0
   have hc1 := (hcell (I.length * 3 + 1) (by omega)).trans p1
   have hfz : w1.frozen? ⟨h, I.length * 3 + 1, none⟩ = false := World.ownsRow.frozenAt (show w1.ownsRow B 88 3 (.slice (some ⟨h, 0, none⟩) (I.length + 1) cp) (I.length + 1) (pc (I ++ [l])) from by have := ho; unfold OwnP at this; rwa [List.length_append, List.length_singleton] at this) _
   have hsh := Hfine.out l (by simp)
   have hbl := Hbd.out l (by simp)
   have hlt := own_lt ho h rfl
   obtain ⟨kd, m, t⟩ := l
   simp only at hc0 hc1
   have hI0 : (0 : Int) ≤ (I.length : Int) := by omega
   have hgh : g ≠ h := fun e => Hne.out (by rw [e]; rfl)
   have Hbs := Lib.hid (bump_snoc n I (kd, m, t))
   clear hcell p0 p1 p2 hlast hpc hv0
   by_cases hkd : kd = 1
   · subst hkd
     have hm : 1 ≤ m ∧ m ≤ us.length ∧ t = emp := by
      rcases hsh with ⟨_, h2, h3⟩ | ⟨h2, _, _⟩
      · simp only [lenP] at hbl h2 h3
        simp at hbl
        exact ⟨h2, by omega, h3⟩
      · simp at h2
     obtain ⟨hm1, hm2, rfl⟩ := hm
     have hm3 : m ≤ 99999990 := by omega
     clear hsh hbl ho hm2
     go_wp2_with fail
     refine bodyPost_ret (results_none rfl _ _ _) rfl ?_
     have hK := keep_last (n := n) Hb.out Ho.out hgh
     have hob : ob1 = some h := by rw [← Hob.out]; rfl
     subst hob
     refine ⟨rfl, some h, ⟨_, _, _, ⟨_, hK.1, hK.2.1, rfl⟩, ?_⟩, Hfr.out.trans hK.2.2⟩
     have h1 := Hk.out
     have h2 := Hbs.out
     rw [if_pos trivial] at h2
     rw [h2] at h1
     exact h1
   · have hkd' : (kd == 1) = false := by simpa using hkd
     have hlb : (I ++ [((kd, m, t) : Pt)]).length ≤ 100000000 := by rw [List.length_append, List.length_singleton]; omega
     have Hkd := Lib.hid hkd
     clear hsh hbl ho hkd
     go_wp2_with (first | (at_builtin; refine wpList_app_part _ rfl (.tmp 44) (.tmp 47) rfl B _ (I ++ [((kd, m, t) : Pt)]) rfl Ho.out 1 n ⟨#[]⟩ 1 rfl hlb hB1 ?_; intro v2 w2 g1 g2 g3 g4; obtain ⟨A2, c2', rfl⟩ := g1.form_ (n := I.length + 2) (by simp); have hb1 := Blk.grown Hb.out g3 Hne.out; have d0 := hb1.cell 0; have d1 := hb1.cell 1; have d2 := hb1.cell 2; have e0 := hb1.frozen 0; have e1 := hb1.frozen 1; have e2 := hb1.frozen 2; have l1 := hb1.lt))
     go_end0
     have Hf := fl_app Hb.out Ho.out Hob.out g1 g3 g4
     refine ⟨rfl, _, ⟨_, _, _, ⟨_, Hf.1, Hf.2.1, rfl⟩, ?_⟩, Hfr.out.trans Hf.2.2⟩
     have h1 := Hk.out
     rw [Hbs.out, if_neg Hkd.out] at h1
     exact h1
theorem mkeep_any {B g : Nat} {ob : Option Nat} {us : List U} {w : World} (n : Int) (h : Mk w B g ob us) (hl : us.length ≤ 99999990) (hB : B ≤ w.heap.size) (hn : 0 ≤ n) (hn2 : n ≤ 100000000) :
 Calls Try.prog 64 #[.pointer (some ⟨g, 0, none⟩), .int .i64 n] w fun e w' => e = .returned (.tuple #[]) ∧ ∃ ob', Mk w' B g ob' (us ++ ku n) ∧ MFr w w' g ob ob' := by
 rcases (show n = 0 ∨ 0 < n by omega) with rfl | h0
 · refine (mkeep_zero h).mono ?_
   rintro e w' ⟨rfl, rfl⟩
   exact ⟨rfl, ob, by simpa [ku] using h, MFr.refl _ _ _⟩
 · exact mkeep_pos n h hl hB h0 hn2
end Go.Proofs.Ytokngfinnieccaa
namespace Go.Proofs.Ytokngfinnieccaa
set_option linter.unusedVariables false
set_option linter.unusedSimpArgs false
set_option maxRecDepth 100000
set_option maxHeartbeats 4000000
theorem nI_le_len : ∀ us : List U, nI us ≤ us.length ∧ nO us ≤ us.length
 | [] => ⟨Nat.le_refl _, Nat.le_refl _⟩
 | none :: us => by have := nI_le_len us; simp only [List.length_cons, nI, nO]; omega
 | some none :: us => by have := nI_le_len us; simp only [List.length_cons, nI, nO]; omega
 | some (some b) :: us => by have := nI_le_len us; simp only [List.length_cons, nI, nO]; omega
theorem text_le {l : List Pt} (h : Fine l) : ∀ p ∈ l, p.2.2.size ≤ (units l).length := by
 intro p hp
 have h1 := lenP_sizes l h p hp
 have h2 := (nI_le_len (units l)).2
 rcases h p hp with ⟨_, _, h3⟩ | ⟨h3, _, _⟩
 · rw [h3]; exact Nat.zero_le _
 · have := h1.2 h3; omega
theorem text_good {l : List Pt} (h : chk l = 0) : ∀ p ∈ l, p.2.2.size ≤ 140737488351232 := fun p hp => by
 have := ((fitE_zero p).1 ((chk_parts h).2.2.2.2.2 p hp)).2.2
 omega
theorem chkL_fine : ∀ (d : List Pt) (last : Int), (hk d ≠ last ∨ d = []) → ¬ (last = 3 ∧ hk d = 2) → Adj d → Fine d → chkL last d = 0 ∨ chkL last d = 2
 | [], _, _, _, _, _ => .inl rfl
 | p :: l, last, h1, h2, ha, hf => by
   have h1' : p.1 ≠ last := by rcases h1 with h | h; exact h; simp at h
   have h2' : ¬ (last = 3 ∧ p.1 = 2) := h2
   have hp := fitE_large p (hf p (by simp))
   simp only [chkL]
   rw [if_neg (by rintro (h | h); exact h1' h; exact h2' h)]
   rcases hp with hp | hp
   · rw [if_neg (by simp [hp])]
     refine chkL_fine l p.1 ?_ ?_ ?_ fun q hq => hf q (by simp [hq])
     · rcases l with _ | ⟨q, l⟩
       · exact .inr rfl
       · exact .inl fun e => ha.1 e.symm
     · rcases l with _ | ⟨q, l⟩
       · simp [hk]
       · exact ha.2.1
     · rcases l with _ | ⟨q, l⟩
       · trivial
       · exact ha.2.2
   · rw [if_pos (by simp [hp])]; exact .inr hp
end Go.Proofs.Ytokngfinnieccaa
namespace Go.Proofs.Ytokngfinnieccaa
open Go.ChangeShapes Go.WideShapes Go.RowKit
set_option linter.unusedVariables false
set_option linter.unusedSimpArgs false
set_option maxRecDepth 100000
set_option maxHeartbeats 4000000
section
variable {w w' : World} {B g : Nat} {ob ob' : Option Nat} {us : List U} {S : Nat → Prop}
theorem Mk.alloc (h : Mk w B g ob us) (o : Obj) : Mk (w.alloc o) B g ob us := by
 obtain ⟨o', p, c, ⟨v, h1, h2, h3⟩, h4⟩ := h
 exact ⟨o', p, c, ⟨v, h1.alloc o, World.ownsRow.alloc h2 o, h3⟩, h4⟩
theorem Mk.ge (h : Mk w B g ob us) : ∀ k, ob = some k → B ≤ k ∧ k < w.heap.size ∧ k ≠ g := by
 obtain ⟨o', p, c, ⟨v, h1, h2, h3⟩, h4⟩ := h
 intro k hk
 rw [← h3] at hk
 refine ⟨own_ge h2 k hk, own_lt h2 k hk, fun e => ?_⟩
 subst e
 exact own_blk_ne (t := 105) h2 h1 (by decide) hk
theorem Mk.lt (h : Mk w B g ob us) : g < w.heap.size := by
 obtain ⟨o', p, c, ⟨v, h1, h2, h3⟩, h4⟩ := h
 exact h1.lt
theorem Mk.only (h : Mk w B g ob us) (ho : Only w w' S) (h1 : ¬ S g) (h2 : ∀ k, ob = some k → ¬ S k) : Mk w' B g ob us := by
 obtain ⟨o', p, c, ⟨v, h3, h4, h5⟩, h6⟩ := h
 exact ⟨o', p, c, ⟨v, h3.only ho h1, own_only h4 ho fun k hk => h2 k (by rw [← h5]; exact hk), h5⟩, h6⟩
theorem MFr.below_ (h : MFr w w' g ob ob') (hB : B ≤ w.heap.size) (hg : B ≤ g) (ho : ∀ k, ob = some k → B ≤ k) : Below B w w' := h.1.below hB fun k hk => by
 rcases hk with rfl | hk
 · exact hg
 · exact ho k hk
end
def ResP (w w' : World) (e : Ending) (er : Int) (l : List Pt) : Prop := ∃ v, e = .returned (.tuple #[v, .int .i64 er]) ∧ OwnP w' w.heap.size v l ∧ Below w.heap.size w w'
theorem ResP.err (w : World) {w' : World} (er : Int) (hb : Below w.heap.size w w') : ResP w w' (.returned (.tuple #[.slice none 0 0, .int .i64 er])) er [] := ⟨_, rfl, OwnP.nil _ _, hb⟩


end Go.Proofs.Ytokngfinnieccaa
