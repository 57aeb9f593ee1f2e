/- What apply.Do says; plain lists, no program. Contracts of apply.Fits, apply.Do. Histories; plain lists, no program. Contracts of revs.One, texts, Check, Text. Contracts of num.Put and what it makes: the bytes of a number. Contract of num.Get and what it makes. Numbers written and read; what is read is written as it was. Deltas as bytes; plain lists. -/
import Derived.Test.YtokngfinnieccaaO3
import Derived.Test.YtokngfinnieccaaO1
namespace Go.Proofs.Ytokngfinnieccaa
set_option linter.unusedVariables false
set_option linter.unusedSimpArgs false
set_option maxRecDepth 100000
set_option maxHeartbeats 4000000
def fitsE (d : List Pt) (n : Int) : Int := if chk d ≠ 0 then chk d else if n ≠ (nI (units d) : Int) then 4 else 0
def doE (d : List Pt) (s : ByteArray) : Int := fitsE d s.size
def doS (d : List Pt) (s : ByteArray) : ByteArray := if doE d s = 0 then ⟨(ap id (units d) s.data.toList).toArray⟩ else ⟨#[]⟩
theorem do_chk {d : List Pt} {s : ByteArray} (h : doE d s = 0) : chk d = 0 ∧ nI (units d) = s.size ∧ doS d s = ⟨(ap id (units d) s.data.toList).toArray⟩ ∧ s.size ≤ 500 := by
 have e : doS d s = ⟨(ap id (units d) s.data.toList).toArray⟩ := by unfold doS; rw [if_pos h]
 unfold doE fitsE at h
 split at h
 · omega
 · split at h
   · omega
   · rename_i h1 h2
     have hk : chk d = 0 := by omega
     have := (chk_parts hk).2.2.2.1
     exact ⟨hk, by omega, e, by omega⟩
theorem do_zero {d : List Pt} {s : ByteArray} (hk : chk d = 0) (hn : nI (units d) = s.size) : doE d s = 0 := by
 unfold doE fitsE; rw [if_neg (by omega), if_neg (by omega)]
theorem do_err {d : List Pt} {s : ByteArray} (h : doE d s ≠ 0) : doS d s = ⟨#[]⟩ := by unfold doS; rw [if_neg h]
theorem do_list {d : List Pt} {s : ByteArray} (h : doE d s = 0) : (doS d s).data.toList = ap id (units d) s.data.toList := by rw [(do_chk h).2.2.1]
theorem do_size {d : List Pt} {s : ByteArray} (h : doE d s = 0) : (doS d s).size = nO (units d) := by
 have h1 := do_chk h
 have h2 : (doS d s).size = (doS d s).data.toList.length := rfl
 rw [h2, do_list h, ap_length id _ _ (by rw [h1.2.1]; rfl)]
theorem do_le {d : List Pt} {s : ByteArray} (h : doE d s = 0) : (doS d s).size ≤ 500 := by
 rw [do_size h]; exact (chk_parts (do_chk h).1).2.2.2.2.1
theorem do_size_any (d : List Pt) (s : ByteArray) : (doS d s).size ≤ 500 := by
 by_cases h : doE d s = 0
 · exact do_le h
 · rw [do_err h]; decide
theorem ba_list {s t : ByteArray} (h : s.data.toList = t.data.toList) : s = t := by
 cases s; cases t; simp at h; simp [h]
theorem do_step_keep {N : Nat} {t : ByteArray} {l : List Pt} {acc r : List UInt8} {R : List UInt8} (h : acc ++ ap id (units ((1, (N : Int), t) :: l)) r = R) (hn : nI (units ((1, (N : Int), t) :: l)) = r.length) :
 (acc ++ r.take N) ++ ap id (units l) (r.drop N) = R ∧ nI (units l) = (r.drop N).length ∧ N ≤ r.length := by
 have e : up ((1, (N : Int), t) : Pt) = List.replicate N none := by simp [up]
 rw [units_cons, e] at h hn
 rw [nI_append, nI_keeps] at hn
 have h2 : r = r.take N ++ r.drop N := (List.take_append_drop N r).symm
 have h3 : (r.take N).length = N := by rw [List.length_take]; omega
 have h4 := ap_append id (List.replicate N none) (units l) (r.take N) (r.drop N) (by rw [nI_keeps, h3])
 rw [List.take_append_drop] at h4
 rw [h4] at h
 have h5 := ap_keeps (α := UInt8) id (r.take N)
 rw [h3] at h5
 rw [h5] at h
 refine ⟨by rw [List.append_assoc]; exact h, by rw [List.length_drop]; omega, by omega⟩
theorem ap_cuts {α : Type} (f : UInt8 → α) : ∀ (s : List α), ap f (List.replicate s.length (some none)) s = []
 | [] => rfl
 | x :: s => by rw [List.length_cons, List.replicate_succ]; simp only [ap]; rw [ap_cuts f s]
theorem do_step_cut {N : Nat} {t : ByteArray} {l : List Pt} {acc r : List UInt8} {R : List UInt8} (h : acc ++ ap id (units ((3, (N : Int), t) :: l)) r = R) (hn : nI (units ((3, (N : Int), t) :: l)) = r.length) :
 acc ++ ap id (units l) (r.drop N) = R ∧ nI (units l) = (r.drop N).length ∧ N ≤ r.length := by
 have e : up ((3, (N : Int), t) : Pt) = List.replicate N (some none) := by simp [up]
 rw [units_cons, e] at h hn
 rw [nI_append, nI_cuts] at hn
 have h3 : (r.take N).length = N := by rw [List.length_take]; omega
 have h4 := ap_append id (List.replicate N (some none)) (units l) (r.take N) (r.drop N) (by rw [nI_cuts, h3])
 rw [List.take_append_drop] at h4
 rw [h4] at h
 have h5 := ap_cuts (α := UInt8) id (r.take N)
 rw [h3] at h5
 rw [h5] at h
 exact ⟨by simpa using h, by rw [List.length_drop]; omega, by omega⟩
theorem ap_puts {α : Type} (f : UInt8 → α) (t : List UInt8) (us : List U) (r : List α) : ap f (t.map (fun b => some (some b)) ++ us) r = t.map f ++ ap f us r := by
 induction t with
 | nil => rfl
 | cons x t ih => simp only [List.map_cons, List.cons_append, ap]; rw [ih]
theorem do_step_put {N : Int} {t : ByteArray} {l : List Pt} {acc r : List UInt8} {R : List UInt8} (h : acc ++ ap id (units ((2, N, t) :: l)) r = R) (hn : nI (units ((2, N, t) :: l)) = r.length) :
 (acc ++ t.data.toList) ++ ap id (units l) r = R ∧ nI (units l) = r.length := by
 have e : up ((2, N, t) : Pt) = t.data.toList.map (fun b => some (some b)) := by simp [up]
 have h0 : nI (t.data.toList.map (fun b => (some (some b) : U))) = 0 := nI_pu t
 rw [units_cons, e] at h hn
 rw [nI_append, h0] at hn
 rw [ap_puts] at h
 exact ⟨by rw [List.append_assoc]; simpa using h, by omega⟩
end Go.Proofs.Ytokngfinnieccaa
namespace Go.Proofs.Ytokngfinnieccaa
open Go.ChangeShapes Go.WideShapes Go.RowKit
set_option linter.unusedVariables false
set_option linter.unusedSimpArgs false
set_option maxRecDepth 100000
set_option maxHeartbeats 4000000
theorem fits_any (l : List Pt) (A : Option Addr) (n c B : Nat) (m : Nat) (w : World) (h : RdP w B A n c l) (hB : B ≤ w.heap.size) :
 Calls Try.prog 70 #[.slice A n c, .int .i64 m] w fun e w' => e = .returned (.int .i64 (fitsE l m)) ∧ Below w.heap.size w w' := by
 have H := Lib.hid h
 clear h
 by_cases hk : chk l = 0
 · have Hk := Lib.hid hk
   by_cases hm : m = nI (units l)
   · have e : fitsE l m = 0 := by unfold fitsE; rw [if_neg (by omega), if_neg (by omega)]
     rw [e]
     have hc := psizes_good l A n c B w H.out hB hk
     rw [← hm] at hc
     have Hc := Lib.hid hc
     clear hc hk e hm
     go_enter Try.func70, Try.ntmps70
     go_wp2_with fail
     refine Hc.out.mono ?_
     rintro e w1 ⟨rfl, hb⟩
     go_wp2_with fail
     go_ret
     exact ⟨rfl, hb⟩
   · have e : fitsE l m = 4 := by unfold fitsE; rw [if_neg (by omega), if_pos (by omega)]
     rw [e]
     have hne : ((m : Int) != (nI (units l) : Int)) = true := by simp; omega
     clear hk e hm
     go_enter Try.func70, Try.ntmps70
     go_wp2_with fail
     refine (psizes_good l A n c B _ H.out hB Hk.out).mono ?_
     rintro e w1 ⟨rfl, hb⟩
     go_wp2_with fail
     go_ret
     exact ⟨rfl, hb⟩
 · have e : fitsE l m = chk l := by unfold fitsE; rw [if_pos hk]
   rw [e]
   have hne : ((chk l) != 0) = true := by simpa using hk
   have Hk := Lib.hid hk
   clear hk e
   go_enter Try.func70, Try.ntmps70
   go_wp2_with fail
   refine (psizes_err l A n c B _ H.out hB Hk.out).mono ?_
   rintro e w1 ⟨rfl, hb⟩
   go_wp2_with fail
   go_ret
   exact ⟨rfl, hb⟩
theorem do_any (l : List Pt) (A : Option Addr) (n c B : Nat) (s : ByteArray) (w : World) (h : RdP w B A n c l) (hB : B ≤ w.heap.size) (hs : s.size ≤ 9223372036854775807) :
 Calls Try.prog 56 #[.slice A n c, .string s] w fun e w' => e = .returned (.tuple #[.string (doS l s), .int .i64 (doE l s)]) ∧ Below w.heap.size w w' := by
 have H := Lib.hid h
 have hcall : ∀ w' , RdP w' B A n c l → B ≤ w'.heap.size → Calls Try.prog 70 #[.slice A n c, .int .i64 s.size] w' fun e w'' => e = .returned (.int .i64 (doE l s)) ∧ Below w'.heap.size w' w'' := fun w' h1 h2 => fits_any l A n c B s.size w' h1 h2
 have Hcall := Lib.hid hcall
 clear h hcall
 by_cases he : doE l s = 0
 · obtain ⟨hk, hn, hd, h5⟩ := do_chk he
   rw [he, hd]
   rw [he] at Hcall
   have HF := Lib.hid (chk_parts hk)
   have hn16 : (n : Int) ≤ 1600 := by have := HF.out.1; have := H.out.1; omega
   have hfin : (ap id (units l) s.data.toList).length ≤ 500 := by rw [ap_length id _ _ hn]; exact (chk_parts hk).2.2.2.2.1
   obtain ⟨R, hR⟩ : ∃ R, ap id (units l) s.data.toList = R := ⟨_, rfl⟩
   rw [hR] at hfin ⊢
   have Hfin := Lib.hid hfin
   have hst : ([] : List UInt8) ++ ap id (units l) s.data.toList = R ∧ nI (units l) = s.data.toList.length := ⟨hR, hn⟩
   clear hfin hR
   have Hst := Lib.hid hst
   clear hk hn hd hst he
   go_enter Try.func56, Try.ntmps56
   go_wp2_with fail
   refine (Hcall.out _ H.out hB).mono ?_
   rintro e w1 ⟨rfl, hb1⟩
   have hbb := hb1.alloc hb1.size (.cells #[.pointer none, .slice none 0 0] 155)
   have HBd := Lib.hid (Bd.fresh_ w1 (B := w.heap.size) hb1.size)
   have hsz := hb1.size
   clear hb1
   go_wp2_with fail
   obtain ⟨gb, hgb⟩ : ∃ g, g = w1.heap.size := ⟨_, rfl⟩
   rw [← hgb] at HBd ⊢
   clear hgb
   go_loopw [1, 9, 19] (fun sv pv i wr => ∃ (k : Nat) (acc : List UInt8) (r : ByteArray), k ≤ n ∧ i = .int .i64 k ∧ sv = .string r ∧ r.size ≤ 500 ∧ Hid (Bd wr w.heap.size gb acc) ∧ Hid (acc ++ ap id (units (l.drop k)) r.data.toList = R ∧ nI (units (l.drop k)) = r.data.toList.length) ∧ Below w.heap.size w wr) (fun _ _ i _ => n - (intOf i).toNat)
   case atStart => exact ⟨0, [], s, by omega, rfl, rfl, h5, HBd, Lib.hid (by rw [List.drop_zero]; exact Hst.out), hbb⟩
   case round =>
    obtain ⟨k, acc, r, hk, rfl, rfl, hr5, hbd, hst, hbw⟩ := hrel
    have Hgne : Hid (wr.heap.size ≠ gb) := Lib.hid (by rcases hbd.out with ⟨_, v, hh, _⟩ | ⟨_, v, hh, _⟩ <;> exact Nat.ne_of_gt (Blk.lt (t := 155) hh))
    have hacc : acc.length ≤ 500 := by
     have h1 := Hfin.out
     rw [← hst.out.1, List.length_append] at h1
     omega
    by_cases hlt : k < n
    · have hkl : k < l.length := by have := H.out.1; omega
      obtain ⟨g, o, rfl, hg, c0, c1, c2⟩ := (H.out.below (hbw.mono hB)).at_ k hlt
      have hbd2 := fit_bounds _ (HF.out.2.2.2.2.2 l[k] (List.getElem_mem hkl))
      have hdr : l.drop k = l[k] :: l.drop (k + 1) := List.drop_eq_getElem_cons hkl
      rw [hdr] at hst
      obtain ⟨p, hp⟩ : ∃ p, p = l[k] := ⟨_, rfl⟩
      rw [← hp] at hbd2 hst c0 c1 c2
      clear hp hdr
      obtain ⟨kd, m, t⟩ := p
      simp only at hbd2 c0 c1 c2
      have hk0 : (0 : Int) ≤ (k : Int) := by omega
      have hkn : (k : Int) < (n : Int) := by omega
      have hgl : g < wr.heap.size := by have := hbw.size; omega
      have hw1 := hbw.alloc hbw.size (.cells #[.int .i64 kd, .int .i64 m, .string t] 88)
      have hbd3 := Lib.hid (hbd.out.alloc (.cells #[.int .i64 kd, .int .i64 m, .string t] 88))
      have hpb := Blk.new wr 88 #[.int .i64 kd, .int .i64 m, .string t]
      have Hpb := Lib.hid hpb
      clear hpb
      rcases hbd2 with ⟨rfl | rfl, h1, h2, rfl⟩ | ⟨rfl, rfl, h1, h2⟩
      · obtain ⟨z, rfl⟩ := Int.eq_ofNat_of_zero_le (show 0 ≤ m by omega)
        obtain ⟨q1, q2, q3⟩ := do_step_keep hst.out.1 hst.out.2
        have hzr : (z : Int) ≤ (r.size : Int) := by have : r.data.toList.length = r.size := rfl; omega
        have hz0 : (0 : Int) ≤ (z : Int) := by omega
        have hzt : ((z : Int)).toNat = z := by omega
        have e1 : (r.extract 0 z).data.toList = r.data.toList.take z := by rw [bs_extract]; simp
        have e2 : (r.extract z r.size).data.toList = r.data.toList.drop z := by rw [bs_extract, ← bs_len, List.take_length]
        have hs2 : (r.extract z r.size).size ≤ 500 := by rw [← bs_len, e2, List.length_drop, bs_len]; omega
        have hs1 : (r.extract 0 z).size ≤ 500 := by rw [← bs_len, e1, List.length_take, bs_len]; omega
        have Hq : Hid ((acc ++ (r.extract 0 z).data.toList) ++ ap id (units (l.drop (k + 1))) (r.extract z r.size).data.toList = R ∧ nI (units (l.drop (k + 1))) = (r.extract z r.size).data.toList.length) := Lib.hid ⟨by rw [e1, e2]; exact q1, by rw [e2]; exact q2⟩
        clear q1 q2 q3 e1 e2 hst
        go_wp2_with fail
        refine (bwrite_any _ gb acc _ _ hbd3.out (by omega) hw1.size).mono ?_
        rintro e w2 ⟨rfl, hbd4, hb2, hbk2⟩
        have hw2 := hw1.trans hb2
        have Hbd4 := Lib.hid hbd4
        have hp2 := hbk2 _ _ _ Hpb.out (by decide) Hgne.out
        have d1 := hp2.cell 1
        have l2 := hp2.lt
        clear hbd4 hb2 hbk2 hp2 hbd3 Hpb hbd
        go_wp2_with fail
        go_roundw
        case rel => exact ⟨k + 1, _, _, by omega, by go_num, rfl, hs2, Hbd4, Hq, hw2⟩
        case measure => simp [intOf]; omega
      · obtain ⟨z, rfl⟩ := Int.eq_ofNat_of_zero_le (show 0 ≤ m by omega)
        obtain ⟨q1, q2, q3⟩ := do_step_cut hst.out.1 hst.out.2
        have hzr : (z : Int) ≤ (r.size : Int) := by have : r.data.toList.length = r.size := rfl; omega
        have hz0 : (0 : Int) ≤ (z : Int) := by omega
        have hzt : ((z : Int)).toNat = z := by omega
        have e2 : (r.extract z r.size).data.toList = r.data.toList.drop z := by rw [bs_extract, ← bs_len, List.take_length]
        have hs2 : (r.extract z r.size).size ≤ 500 := by rw [← bs_len, e2, List.length_drop, bs_len]; omega
        have Hq : Hid (acc ++ ap id (units (l.drop (k + 1))) (r.extract z r.size).data.toList = R ∧ nI (units (l.drop (k + 1))) = (r.extract z r.size).data.toList.length) := Lib.hid ⟨by rw [e2]; exact q1, by rw [e2]; exact q2⟩
        clear q1 q2 q3 e2 hst Hpb hbd
        go_wp2_with fail
        go_roundw
        case rel => exact ⟨k + 1, _, _, by omega, by go_num, rfl, hs2, hbd3, Hq, hw1⟩
        case measure => simp [intOf]; omega
      · have hq := do_step_put hst.out.1 hst.out.2
        have Hq := Lib.hid hq
        clear hq hst Hpb hbd
        go_wp2_with fail
        refine (bwrite_any _ gb acc _ _ hbd3.out (by omega) hw1.size).mono ?_
        rintro e w2 ⟨rfl, hbd4, hb2, hbk2⟩
        have hw2 := hw1.trans hb2
        have Hbd4 := Lib.hid hbd4
        clear hbd4 hb2 hbk2 hbd3
        go_wp2_with fail
        go_roundw
        case rel => exact ⟨k + 1, _, _, by omega, by go_num, rfl, hr5, Hbd4, Hq, hw2⟩
        case measure => simp [intOf]; omega
    · have hR : acc = R := by
       have h1 := hst.out
       rw [List.drop_eq_nil_of_le (by have := H.out.1; omega)] at h1
       have h2 : r.data.toList = [] := List.eq_nil_of_length_eq_zero (by rw [← h1.2]; rfl)
       rw [h2] at h1
       simpa [units, ap] using h1.1
      subst hR
      go_wp2_with fail
      refine (bstring_any _ gb acc _ hbd.out hbw.size).mono ?_
      rintro e w2 ⟨rfl, hb2⟩
      have hw2 := hbw.trans hb2
      go_wp2_with fail
      go_ret2
      exact ⟨rfl, hw2⟩
 · rw [do_err he]
   have hne : ((doE l s) != 0) = true := by simpa using he
   generalize doE l s = E at *
   clear he
   go_enter Try.func56, Try.ntmps56
   go_wp2_with fail
   refine (Hcall.out _ H.out hB).mono ?_
   rintro e w1 ⟨rfl, hb1⟩
   go_wp2_with fail
   go_ret2
   exact ⟨rfl, hb1⟩
end Go.Proofs.Ytokngfinnieccaa
namespace Go.Proofs.Ytokngfinnieccaa
set_option linter.unusedVariables false
set_option linter.unusedSimpArgs false
set_option maxRecDepth 100000
set_option maxHeartbeats 4000000
abbrev Rv := Int × Int × List Pt
def oneE (r : Rv) : Int := if r.1 < 0 ∨ 7 < r.1 ∨ r.2.1 < 0 ∨ 2147483647 < r.2.1 then 1 else chk r.2.2
def txr : ByteArray → List Rv → Int
 | _, [] => 0
 | s, r :: l => if oneE r ≠ 0 then oneE r else if doE r.2.2 s ≠ 0 then doE r.2.2 s else txr (doS r.2.2 s) l
def txE (base : ByteArray) (l : List Rv) : Int := if 500 < base.size ∨ 64 < l.length then 2 else txr base l
def txs : ByteArray → List Rv → List ByteArray
 | s, [] => [s]
 | s, r :: l => s :: txs (doS r.2.2 s) l
def txt : ByteArray → List Rv → Nat → ByteArray
 | s, _, 0 => s
 | s, [], _ + 1 => s
 | s, r :: l, k + 1 => txt (doS r.2.2 s) l k
theorem txs_len : ∀ (l : List Rv) (s : ByteArray), (txs s l).length = l.length + 1
 | [], s => rfl
 | r :: l, s => by simp only [txs, List.length_cons]; rw [txs_len l]
theorem txs_at : ∀ (l : List Rv) (s : ByteArray) (k : Nat), k ≤ l.length → (txs s l)[k]? = some (txt s l k)
 | [], s, 0, _ => rfl
 | r :: l, s, 0, _ => rfl
 | r :: l, s, k + 1, h => by
   simp only [txs, txt, List.getElem?_cons_succ]
   exact txs_at l _ k (by simpa using h)
theorem txr_take : ∀ (l : List Rv) (s : ByteArray) (k : Nat), txr s l = 0 → txr s (l.take k) = 0
 | [], s, k, h => by simp [txr]
 | r :: l, s, 0, h => by simp [txr]
 | r :: l, s, k + 1, h => by
   simp only [txr] at h
   split at h
   · omega
   · split at h
     · omega
     · rename_i h1 h2
       simp only [List.take_succ_cons, txr]
       rw [if_neg h1, if_neg h2]
       exact txr_take l _ k h
theorem txr_drop : ∀ (l : List Rv) (s : ByteArray) (k : Nat), txr s l = 0 → txr (txt s l k) (l.drop k) = 0
 | [], s, k, h => by simp [txr]
 | r :: l, s, 0, h => h
 | r :: l, s, k + 1, h => by
   simp only [txr] at h
   split at h
   · omega
   · split at h
     · omega
     · simp only [List.drop_succ_cons, txt]
       exact txr_drop l _ k h
theorem txt_size : ∀ (l : List Rv) (s : ByteArray) (k : Nat), s.size ≤ 500 → (txt s l k).size ≤ 500
 | [], s, 0, h => h
 | [], s, k + 1, h => h
 | r :: l, s, 0, h => h
 | r :: l, s, k + 1, h => txt_size l _ k (do_size_any _ _)
theorem txt_take : ∀ (l : List Rv) (s : ByteArray) (k i : Nat), i ≤ k → txt s (l.take k) i = txt s l i
 | [], s, k, i, _ => by simp
 | r :: l, s, k, 0, _ => by cases k <;> simp [txt]
 | r :: l, s, 0, i + 1, h => by omega
 | r :: l, s, k + 1, i + 1, h => by
   simp only [List.take_succ_cons, txt]
   exact txt_take l _ k i (by omega)
theorem txt_drop : ∀ (l : List Rv) (s : ByteArray) (k i : Nat), txt (txt s l k) (l.drop k) i = txt s l (k + i)
 | [], s, 0, i => by simp [txt]
 | [], s, k + 1, i => by
   simp only [txt, List.drop_nil]
   cases i <;> simp [txt]
 | r :: l, s, 0, i => by simp [txt]
 | r :: l, s, k + 1, i => by
   have := txt_drop l (doS r.2.2 s) k i
   simp only [List.drop_succ_cons, txt]
   rw [this, show k + 1 + i = (k + i) + 1 by omega]
   rfl
theorem txE_parts {base : ByteArray} {l : List Rv} (h : txE base l = 0) : base.size ≤ 500 ∧ l.length ≤ 64 ∧ txr base l = 0 := by
 unfold txE at h
 split at h
 · omega
 · rename_i h1
   exact ⟨by omega, by omega, h⟩
theorem txE_zero {base : ByteArray} {l : List Rv} (h1 : base.size ≤ 500) (h2 : l.length ≤ 64) (h : txr base l = 0) : txE base l = 0 := by
 unfold txE; rw [if_neg (by omega)]; exact h
theorem txr_step {s : ByteArray} {r : Rv} {l : List Rv} {E : Int} (h : txr s (r :: l) = E) :
 (oneE r ≠ 0 → E = oneE r) ∧ (oneE r = 0 → doE r.2.2 s ≠ 0 → E = doE r.2.2 s) ∧ (oneE r = 0 → doE r.2.2 s = 0 → txr (doS r.2.2 s) l = E) := by
 simp only [txr] at h
 refine ⟨fun h1 => ?_, fun h1 h2 => ?_, fun h1 h2 => ?_⟩
 · rw [if_pos h1] at h; exact h.symm
 · rw [if_neg (by omega), if_pos h2] at h; exact h.symm
 · rw [if_neg (by omega), if_neg (by omega)] at h; exact h
theorem one_good {r : Rv} (h : oneE r = 0) : chk r.2.2 = 0 := by
 unfold oneE at h
 split at h
 · omega
 · exact h
end Go.Proofs.Ytokngfinnieccaa
namespace Go.Proofs.Ytokngfinnieccaa
open Go.ChangeShapes Go.WideShapes Go.RowKit
set_option linter.unusedVariables false
set_option linter.unusedSimpArgs false
set_option maxRecDepth 100000
set_option maxHeartbeats 4000000
abbrev Sl := Option Addr × Nat × Nat
def rvcells (r : Rv) (s : Sl) : List Value := [.int .i64 r.1, .int .i64 r.2.1, .slice s.1 s.2.1 s.2.2]
def rc : List Rv → List Sl → List Value
 | r :: l, s :: ss => rvcells r s ++ rc l ss
 | _, _ => []
theorem rc_len : ∀ (l : List Rv) (ss : List Sl), ss.length = l.length → (rc l ss).length = l.length * 3
 | [], [], _ => rfl
 | [], _ :: _, h => by simp at h
 | _ :: _, [], h => by simp at h
 | r :: l, s :: ss, h => by simp only [rc, List.length_append, rvcells, List.length_cons, List.length_nil]; rw [rc_len l ss (by simpa using h)]; omega
theorem rc_at : ∀ (l : List Rv) (ss : List Sl) (hs : ss.length = l.length) (k : Nat) (h : k < l.length), (rc l ss)[k * 3]? = some (.int .i64 l[k].1) ∧ (rc l ss)[k * 3 + 1]? = some (.int .i64 l[k].2.1) ∧
 (rc l ss)[k * 3 + 2]? = some (.slice (ss[k]'(by omega)).1 (ss[k]'(by omega)).2.1 (ss[k]'(by omega)).2.2)
 | [], _, _, k, h => absurd h (by simp)
 | _ :: _, [], h, _, _ => by simp at h
 | r :: l, s :: ss, hs, 0, h => ⟨rfl, rfl, rfl⟩
 | r :: l, s :: ss, hs, k + 1, h => by
   have := rc_at l ss (by simpa using hs) k (by simpa using h)
   have e (j : Nat) : (rc (r :: l) (s :: ss))[(k + 1) * 3 + j]? = (rc l ss)[k * 3 + j]? := by
    simp only [rc]
    rw [List.getElem?_append_right (by simp [rvcells]; omega)]
    congr 1
    simp [rvcells]; omega
   have e0 := e 0
   simp only [Nat.add_zero] at e0
   rw [e0, e 1, e 2]
   exact this
def RdR (w : World) (B : Nat) (A : Option Addr) (n c : Nat) (l : List Rv) : Prop :=
 n = l.length ∧ ∃ ss : List Sl, ∃ hs : ss.length = l.length, Rd w B 3 A n c (rc l ss) ∧ ∀ k (h : k < l.length), RdP w B (ss[k]'(by omega)).1 (ss[k]'(by omega)).2.1 (ss[k]'(by omega)).2.2 l[k].2.2
section
variable {w w' : World} {B B' n c : Nat} {A : Option Addr} {l : List Rv}
theorem RdR.at_ (h : RdR w B A n c l) (k : Nat) (hk : k < n) :
 ∃ b o A1 n1 c1, A = some ⟨b, o, none⟩ ∧ b < B ∧ w.cell? ⟨b, o + k * 3, none⟩ = some (.int .i64 (l[k]'(by have := h.1; omega)).1) ∧ w.cell? ⟨b, o + k * 3 + 1, none⟩ = some (.int .i64 (l[k]'(by have := h.1; omega)).2.1) ∧
   w.cell? ⟨b, o + k * 3 + 2, none⟩ = some (.slice A1 n1 c1) ∧ RdP w B A1 n1 c1 (l[k]'(by have := h.1; omega)).2.2 := by
 obtain ⟨h0, ss, hs, hr, hp⟩ := h
 obtain ⟨b, o, e, hb, hc⟩ := hr.2.2.2 (by omega)
 obtain ⟨h1, h2, h3⟩ := rc_at l ss hs k (by omega)
 refine ⟨b, o, _, _, _, e, hb, hc _ _ h1, ?_, ?_, hp k (by omega)⟩
 · have := hc _ _ h2; rwa [← Nat.add_assoc] at this
 · have := hc _ _ h3; rwa [← Nat.add_assoc] at this
theorem RdR.below (h : RdR w B A n c l) (hb : Below B w w') : RdR w' B A n c l := by
 obtain ⟨h0, ss, hs, hr, hp⟩ := h
 exact ⟨h0, ss, hs, hr.below hb, fun k hk => (hp k hk).below hb⟩
theorem RdR.more (h : RdR w B A n c l) (hB : B ≤ B') : RdR w B' A n c l := by
 obtain ⟨h0, ss, hs, hr, hp⟩ := h
 exact ⟨h0, ss, hs, hr.more hB, fun k hk => (hp k hk).more hB⟩
theorem RdR.step (h : RdR w w.heap.size A n c l) (hb : Below w.heap.size w w') : RdR w' w'.heap.size A n c l := (h.below hb).more hb.size
theorem RdR.le (h : RdR w B A n c l) : n ≤ 9223372036854775807 := by obtain ⟨h0, ss, hs, hr, hp⟩ := h; have := hr.1; have := hr.2.1; unfold maxLen at this; omega
theorem RdR.caps (h : RdR w B A n c l) : n ≤ c ∧ c ≤ 9223372036854775807 := by obtain ⟨h0, ss, hs, hr, hp⟩ := h; have h1 := hr.1; have h2 := hr.2.1; unfold maxLen at h2; exact ⟨h1, h2⟩
theorem rc_take : ∀ (l : List Rv) (ss : List Sl) (k : Nat), ss.length = l.length → rc (l.take k) (ss.take k) = (rc l ss).take (k * 3)
 | [], [], k, _ => by simp [rc]
 | [], _ :: _, _, h => by simp at h
 | _ :: _, [], _, h => by simp at h
 | r :: l, s :: ss, 0, h => by simp [rc]
 | r :: l, s :: ss, k + 1, h => by
   simp only [List.take_succ_cons, rc]
   rw [rc_take l ss k (by simpa using h), show (k + 1) * 3 = 3 + k * 3 by omega, List.take_append, show (rvcells r s).length = 3 from rfl, show 3 + k * 3 - 3 = k * 3 by omega]
   congr 1
   rw [List.take_of_length_le (by simp [rvcells])]
theorem rc_drop : ∀ (l : List Rv) (ss : List Sl) (k : Nat), ss.length = l.length → rc (l.drop k) (ss.drop k) = (rc l ss).drop (k * 3)
 | [], [], k, _ => by simp [rc]
 | [], _ :: _, _, h => by simp at h
 | _ :: _, [], _, h => by simp at h
 | r :: l, s :: ss, 0, h => by simp [rc]
 | r :: l, s :: ss, k + 1, h => by
   simp only [List.drop_succ_cons, rc]
   rw [rc_drop l ss k (by simpa using h), show (k + 1) * 3 = 3 + k * 3 by omega, ← List.drop_drop]
   congr 1
theorem RdR.drop (h : RdR w B A n c l) (k : Nat) (hk : k ≤ n) (A' : Option Addr) (hA : k < n → ∀ b o, A = some ⟨b, o, none⟩ → A' = some ⟨b, o + k * 3, none⟩) : RdR w B A' (n - k) (c - k) (l.drop k) := by
 obtain ⟨h0, ss, hs, hr, hp⟩ := h
 refine ⟨by rw [List.length_drop]; omega, ss.drop k, by rw [List.length_drop, List.length_drop]; omega, ⟨by have := hr.1; omega, by have := hr.2.1; omega, ?_, fun h1 => ?_⟩, fun j hj => ?_⟩
 · rw [rc_drop l ss k hs, List.length_drop, rc_len l ss hs, h0, Nat.sub_mul]
 · obtain ⟨b, o, e, hb, hc⟩ := hr.2.2.2 (by omega)
   refine ⟨b, o + k * 3, hA (by omega) b o e, hb, fun j u hj => ?_⟩
   rw [rc_drop l ss k hs, List.getElem?_drop] at hj
   have := hc _ u hj
   rwa [← Nat.add_assoc] at this
 · rw [List.length_drop] at hj
   have := hp (k + j) (by omega)
   simpa [List.getElem_drop] using this
end
theorem one_any (a b : Int) (d : List Pt) (A : Option Addr) (n c B : Nat) (r : Int) (w : World) (h : RdP w B A n c d) (hB : B ≤ w.heap.size) (hr : oneE (a, b, d) = r) :
 Calls Try.prog 100 #[.agg #[.int .i64 a, .int .i64 b, .slice A n c]] w fun e w' => e = .returned (.int .i64 r) ∧ Below w.heap.size w w' := by
 have hbb := (Below.refl w.heap.size w).alloc (Nat.le_refl _) (.cells #[.int .i64 a, .int .i64 b, .slice A n c] 30)
 have H := Lib.hid (h.alloc hB (.cells #[.int .i64 a, .int .i64 b, .slice A n c] 30))
 by_cases hbad : a < 0 ∨ 7 < a ∨ b < 0 ∨ 2147483647 < b
 · obtain rfl : r = 1 := by rw [← hr]; unfold oneE; rw [if_pos hbad]
   clear hr h
   rcases (show a < 0 ∨ (0 ≤ a ∧ 7 < a) ∨ (0 ≤ a ∧ a ≤ 7 ∧ b < 0) ∨ (0 ≤ a ∧ a ≤ 7 ∧ 0 ≤ b ∧ 2147483647 < b) by omega) with h1 | ⟨h1, h2⟩ | ⟨h1, h2, h3⟩ | ⟨h1, h2, h3, h4⟩
   all_goals
    clear hbad
    go_enter Try.func100, Try.ntmps100
    go_wp2_with fail
    go_ret
    exact ⟨rfl, hbb⟩
 · obtain rfl : chk d = r := by rw [← hr]; unfold oneE; rw [if_neg hbad]
   have h1 : 0 ≤ a := by omega
   have h2 : a ≤ 7 := by omega
   have h3 : 0 ≤ b := by omega
   have h4 : b ≤ 2147483647 := by omega
   have hBB := hbb.size
   clear hr h hbad
   go_enter Try.func100, Try.ntmps100
   go_wp2_with fail
   refine (chk_any d A n c B _ H.out (by simp; omega)).mono ?_
   rintro e w1 ⟨rfl, hb1⟩
   have hw1 := hbb.trans (hb1.mono hbb.size)
   go_wp2_with fail
   go_ret
   exact ⟨rfl, hw1⟩
def OwnS (w : World) (B : Nat) (v : Value) (l : List ByteArray) : Prop := w.ownsRow B 9 1 v l.length (l.map .string)
theorem Try.info_string : (Try.prog.info? 9).map (fun i => (i.zero, i.size, i.bytes)) = some (some (.string ⟨#[]⟩), 1, 16) := by kernel_rfl
theorem OwnS.form_ {w : World} {B n : Nat} {v : Value} {l : List ByteArray} (h : OwnS w B v l) (hn : l.length = n) : ∃ A c, v = .slice A n c := by
 subst hn
 rcases h.2 with ⟨rfl, h0⟩ | ⟨g, cap, cur, rfl, _⟩
 · exact ⟨none, 0, by rw [h0]⟩
 · exact ⟨_, _, rfl⟩
theorem wpList_app_strg {ops : Array Oper} {rest : List Oper} {o : Oper} {a : Act} {Q : Exit → Act → World → Prop} (w : World) (hgd : o.guard = none) (s x : Operand)
 (ho : o.op = .call { callee := .builtin .append, args := #[s, x], argTypes := #[22, 22] })
 (B : Nat) (v : Value) (l : List ByteArray) (hs : a.eval s = v) (hown : OwnS w B v l)
 (u : ByteArray) (c : Nat) (hx : a.eval x = .slice (some ⟨w.heap.size, 0, none⟩) 1 c)
 (hn : l.length ≤ 100000000) (hB : B ≤ w.heap.size)
 (h : ∀ v' w', OwnS w' B v' (l ++ [u]) → Below B w w' → w.grownBy w' v.ownBlock → wpList Try.prog ops Q rest (a.put o.dst v') w') :
 wpList Try.prog ops Q (o :: rest) a (w.alloc (.cells #[.string u] 9)) := by
 obtain ⟨i0, hi, hz0, hz1, hz2⟩ := info_parts Try.info_string
 refine wpList_app1 w hgd s x 22 ho B 9 i0 _ 1 16 Try.underlying22 hi hz0 hz1 hz2 rfl (by omega) (by omega) v _ _ hs hown _ c hx rfl (by simp [Value.oneCell']) hn hB ?_
 intro v' w' h1 h2 h3 h4
 exact h v' w' (by unfold OwnS; rw [List.map_append, List.length_append]; exact h1) h2 h3
theorem ownS_one (w : World) (s : ByteArray) (B : Nat) (hB : B ≤ w.heap.size) : OwnS (w.alloc (.cells #[.string s] 9)) B (.slice (some ⟨w.heap.size, 0, none⟩) 1 1) [s] := by
 refine ⟨by simp, .inr ⟨w.heap.size, 1, #[.string s], rfl, hB, heap_alloc_new w _, by simp, by decide, by simp, by simp⟩⟩
theorem texts_large (base : ByteArray) (l : List Rv) (A : Option Addr) (n c B : Nat) (w : World) (h : RdR w B A n c l) (hbs : base.size ≤ 9223372036854775807) (he : 500 < (base.size : Int) ∨ 64 < (n : Int)) :
 Calls Try.prog 68 #[.string base, .slice A n c] w fun e w' => e = .returned (.tuple #[.slice none 0 0, .int .i64 2]) ∧ Below w.heap.size w w' := by
 have hle := h.le
 clear h
 rcases (show 500 < (base.size : Int) ∨ ((base.size : Int) ≤ 500 ∧ 64 < (n : Int)) by omega) with h1 | ⟨h1, h2⟩
 all_goals
  clear he
  go_enter Try.func68, Try.ntmps68
  go_wp2_with fail
  go_ret2
  exact ⟨rfl, Below.refl _ _⟩
theorem texts_any (base : ByteArray) (l : List Rv) (A : Option Addr) (n c B : Nat) (w : World) (h : RdR w B A n c l) (hB : B ≤ w.heap.size) (hbs : base.size ≤ 9223372036854775807) :
 Calls Try.prog 68 #[.string base, .slice A n c] w fun e w' => ∃ A1 n1 c1, e = .returned (.tuple #[.slice A1 n1 c1, .int .i64 (txE base l)]) ∧ (txE base l = 0 → OwnS w' w.heap.size (.slice A1 n1 c1) (txs base l)) ∧ Below w.heap.size w w' := by
 by_cases hlarge : 500 < (base.size : Int) ∨ 64 < (n : Int)
 · have e2 : txE base l = 2 := by unfold txE; rw [if_pos (by have := h.1; omega)]
   rw [e2]
   refine (texts_large base l A n c B w h hbs hlarge).mono ?_
   rintro e w' ⟨rfl, hb⟩
   exact ⟨_, _, _, rfl, fun h => absurd h (by decide), hb⟩
 have hb5 : (base.size : Int) ≤ 500 := by omega
 have hn64 : (n : Int) ≤ 64 := by omega
 have e0 : txE base l = txr base l := by unfold txE; rw [if_neg (by have := h.1; omega)]
 rw [e0]
 obtain ⟨E, hE⟩ : ∃ E, txr base l = E := ⟨_, rfl⟩
 rw [hE]
 have H := Lib.hid h
 obtain ⟨T, hT⟩ : ∃ T, txs base l = T := ⟨_, rfl⟩
 rw [hT]
 have Hst : Hid (txr base (l.drop 0) = E ∧ ([] : List ByteArray) ++ txs base (l.drop 0) = T) := Lib.hid ⟨hE, hT⟩
 clear h hlarge e0 hE hT
 have hbb := (Below.refl w.heap.size w).alloc (Nat.le_refl _) (.cells #[.string base] 9)
 have Hown := Lib.hid (ownS_one w base w.heap.size (Nat.le_refl _))
 go_enter Try.func68, Try.ntmps68
 go_wp2_with fail
 go_loopw [6, 8, 9, 10, 11, 24] (fun ov pv e1 sv e2 i wr => ∃ (k m c1 : Nat) (g : Nat) (pre : List ByteArray) (last : ByteArray), k ≤ n ∧ i = .int .i64 k ∧ m = k + 1 ∧ ov = .slice (some ⟨g, 0, none⟩) m c1 ∧ last.size ≤ 500 ∧ pre.length = k ∧ Hid (OwnS wr w.heap.size (.slice (some ⟨g, 0, none⟩) m c1) (pre ++ [last])) ∧ Hid (txr last (l.drop k) = E ∧ pre ++ txs last (l.drop k) = T) ∧ Below w.heap.size w wr) (fun _ _ _ _ _ i _ => n - (intOf i).toNat)
 case atStart => exact ⟨0, 1, 1, _, [], base, by omega, rfl, rfl, rfl, by omega, rfl, Hown, Hst, hbb⟩
 case round =>
  obtain ⟨k, m, c1, g, pre, last, hk, rfl, hm, rfl, hl5, hpl, hown, hst, hbw⟩ := hrel
  have Hm := Lib.hid hm
  clear hm
  by_cases hlt : k < n
  · have hkl : k < l.length := by have := H.out.1; omega
    obtain ⟨b, o, A1, n1, d1, rfl, hb, c0, c1_, c2, hrd⟩ := (H.out.below (hbw.mono hB)).at_ k hlt
    have hdr : l.drop k = l[k] :: l.drop (k + 1) := List.drop_eq_getElem_cons hkl
    rw [hdr] at hst
    have hstep := Lib.hid (txr_step hst.out.1)
    obtain ⟨r, hr⟩ : ∃ r, r = l[k] := ⟨_, rfl⟩
    rw [← hr] at hst hstep c0 c1_ hrd
    clear hr hdr
    obtain ⟨ra, rb, d⟩ := r
    simp only at c0 c1_ c2 hrd hstep
    have Hrd := Lib.hid hrd
    have hk0 : (0 : Int) ≤ (k : Int) := by omega
    have hkn : (k : Int) < (n : Int) := by omega
    have hgl : b < wr.heap.size := by have := hbw.size; omega
    have hw1 := hbw.alloc hbw.size (.cells #[.int .i64 ra, .int .i64 rb, .slice A1 n1 d1] 30)
    have hpb := Blk.new wr 30 #[.int .i64 ra, .int .i64 rb, .slice A1 n1 d1]
    have Hpb := Lib.hid hpb
    have hown1 := Lib.hid (World.ownsRow.alloc hown.out (.cells #[.int .i64 ra, .int .i64 rb, .slice A1 n1 d1] 30))
    obtain ⟨q, hq⟩ : ∃ q, oneE (ra, rb, d) = q := ⟨_, rfl⟩
    have Hq := Lib.hid hq
    have hcall := one_any ra rb d A1 n1 d1 B q (wr.alloc (.cells #[.int .i64 ra, .int .i64 rb, .slice A1 n1 d1] 30)) (hrd.alloc (by have := hbw.size; omega) _) (by have := hw1.size; omega) hq
    have Hcall := Lib.hid hcall
    clear hpb hq hcall hrd
    go_wp2_with fail
    refine Hcall.out.mono ?_
    rintro e w2 ⟨rfl, hb2⟩
    have hw2 := hw1.trans (hb2.mono hw1.size)
    have hpb2 := Hpb.out.below hb2 Hpb.out.lt
    have Hrd2 : Hid (RdP w2 B A1 n1 d1 d) := Lib.hid ((Hrd.out.alloc (by have := hbw.size; omega) _).below (hb2.mono (by have := hw1.size; omega)))
    have hown2 : OwnS w2 w.heap.size (.slice (some ⟨g, 0, none⟩) m c1) (pre ++ [last]) := own_below hown1.out hb2
    clear hb2
    by_cases hq0 : q = 0
    · subst hq0
      have hp2 := hpb2.cell 2
      have lp2 := hpb2.lt
      have hlen : (pre ++ [last]).length = m := by have := Hm.out; rw [List.length_append, List.length_singleton]; omega
      have hcl : w2.cell? ⟨g, k, none⟩ = some (.string last) := by
       have h1 := hown2
       unfold OwnS at h1
       rw [hlen] at h1
       rw [World.ownsRow.cellAt h1 k (by have := Hm.out; omega)]
       rw [List.map_append, List.getElem?_append_right (by simp; omega)]
       simp [hpl]
      have hgw : g < w2.heap.size := own_lt hown2 g rfl
      have Hown2 := Lib.hid hown2
      have hsz2 := hw2.size
      have hp2' : w2.cell? ⟨wr.heap.size, 2, none⟩ = some (.slice A1 n1 d1) := hp2
      have hB2 : B ≤ w2.heap.size := by omega
      have hdo : ∀ w', (Below w2.heap.size w2 w' ∧ w'.cell? ⟨wr.heap.size, 2, none⟩ = some (.slice A1 n1 d1) ∧ w'.cell? ⟨g, k, none⟩ = some (.string last)) →
       Calls Try.prog 56 #[.slice A1 n1 d1, .string last] w' fun e w'' => e = .returned (.tuple #[.string (doS d last), .int .i64 (doE d last)]) ∧ (Below w2.heap.size w2 w'' ∧ w''.cell? ⟨wr.heap.size, 2, none⟩ = some (.slice A1 n1 d1) ∧ w''.cell? ⟨g, k, none⟩ = some (.string last)) := by
       rintro w' ⟨q1, q2, q3⟩
       refine (do_any d A1 n1 d1 B last w' (Hrd2.out.below (q1.mono hB2)) (by have := q1.size; omega) (by omega)).mono ?_
       rintro e w'' ⟨rfl, hb⟩
       have := q1.size
       exact ⟨rfl, q1.trans (hb.mono (by omega)), (hb.cell (by show wr.heap.size < _; omega)).trans q2, (hb.cell (by show g < _; omega)).trans q3⟩
      have Hdo := Lib.hid hdo
      have hwr : IntKind.i64.wrap ((m : Int) - 1) = (k : Int) := by rw [show (m : Int) - 1 = (k : Int) by have := Hm.out; omega]; exact IntWalk.i64_in _ (by omega)
      have hkm : (k : Int) < (m : Int) := by have := Hm.out; omega
      have htn : ((k : Int)).toNat = k := by omega
      have hds := do_size_any d last
      clear hown2 hpb2 hdo hp2
      go_wp2_with fail
      go_region_held3 (fun w' => Below w2.heap.size w2 w' ∧ w'.cell? ⟨wr.heap.size, 2, none⟩ = some (.slice A1 n1 d1) ∧ w'.cell? ⟨g, k, none⟩ = some (.string last)) (first | assumption | exact ⟨Below.drew (Below.refl _ _), by assumption, by assumption⟩)
       ((first | (go_at_call 56; refine (Hdo.out _ (by assumption)).mono ?_; rintro e w9 ⟨rfl, hb9⟩)))
      all_goals
       have hS9 : Below w2.heap.size w2 w9 := And.left (by assumption)
       have hw9 := hw2.trans (hS9.mono hw2.size)
       have hown9 : OwnS w9 w.heap.size (.slice (some ⟨g, 0, none⟩) m c1) (pre ++ [last]) := own_below Hown2.out hS9
       have Hown9 := Lib.hid hown9
       clear hown9
       obtain ⟨z, hz⟩ : ∃ z, doE d last = z := ⟨_, rfl⟩
       by_cases hz0 : z = 0
       · subst hz0
         have hE2 := hstep.out.2.2 Hq.out hz
         have hT2 : (pre ++ [last]) ++ txs (doS d last) (l.drop (k + 1)) = T := by
          have := hst.out.2
          rw [List.append_assoc]; exact this
         have HE2 := Lib.hid hE2
         have HT2 := Lib.hid hT2
         rw [hz]
         have hl1 : (pre ++ [last]).length ≤ 100000000 := by have := Hm.out; omega
         have hsz9 := hw9.size
         clear hE2 hT2 hstep hst hz Hown2
         go_wp2_with (first | (at_builtin; refine wpList_app_strg _ rfl (.tmp 48) (.tmp 50) rfl w.heap.size _ (pre ++ [last]) rfl Hown9.out (doS d last) 1 rfl hl1 hsz9 ?_; intro v3 w3 g1 g2 g3; obtain ⟨A3, c3, rfl⟩ := g1.form_ (n := m + 1) (by rw [List.length_append, hlen, List.length_singleton])))
         have hg3 : ∃ g', A3 = some ⟨g', 0, none⟩ := by
          rcases g1.2 with ⟨hv, h0⟩ | ⟨g', cap, cur, hv, _⟩
          · rw [List.length_append, List.length_singleton] at h0; omega
          · injection hv with h1 h2 h3; exact ⟨g', h1⟩
         obtain ⟨g', rfl⟩ := hg3
         have hw3 := hw9.trans g2
         have Hg1 := Lib.hid g1
         clear g1 g2 g3
         go_wp2_with fail
         go_roundw
         case rel => exact ⟨k + 1, m + 1, c3, g', pre ++ [last], doS d last, by omega, by go_num, by have := Hm.out; omega, rfl, hds, by rw [List.length_append, List.length_singleton]; omega, Hg1, Lib.hid ⟨HE2.out, HT2.out⟩, hw3⟩
         case measure => simp [intOf]; omega
       · have hE2 : E = z := by rw [hstep.out.2.1 Hq.out (by rw [hz]; exact hz0)]; exact hz
         have hz1 : (z != 0) = true := by simpa using hz0
         rw [hz]
         subst hE2
         have Hz0 := Lib.hid hz0
         clear hz0 hz
         go_wp2_with fail
         go_ret2
         exact ⟨_, _, _, rfl, fun h => absurd h Hz0.out, hw9⟩
    · have hE2 : E = q := by rw [hstep.out.1 (by rw [Hq.out]; exact hq0)]; exact Hq.out
      have hq1 : (q != 0) = true := by simpa using hq0
      subst hE2
      have Hq0 := Lib.hid hq0
      clear hq0 hpb2 hown2
      go_wp2_with fail
      go_ret2
      exact ⟨_, _, _, rfl, fun h => absurd h Hq0.out, hw2⟩
  · have hfin : E = 0 ∧ pre ++ [last] = T := by
     have h1 := hst.out
     rw [List.drop_eq_nil_of_le (by have := H.out.1; omega)] at h1
     exact ⟨h1.1.symm, h1.2⟩
    obtain ⟨rfl, rfl⟩ := hfin
    go_wp2_with fail
    go_ret2
    exact ⟨_, _, _, rfl, (by first | exact hown.out | exact fun _ => hown.out), hbw⟩
theorem rtext_good (base : ByteArray) (l : List Rv) (A : Option Addr) (n c B : Nat) (k : Nat) (w : World) (h : RdR w B A n c l) (hB : B ≤ w.heap.size) (he : txE base l = 0) (hk : k ≤ l.length) :
 Calls Try.prog 17 #[.string base, .slice A n c, .int .i64 k] w fun e w' => e = .returned (.tuple #[.string (txt base l k), .int .i64 0]) ∧ Below w.heap.size w w' := by
 have hp := txE_parts he
 have hc := texts_any base l A n c B w h hB (by omega)
 rw [he] at hc
 have Hc := Lib.hid hc
 have hn : n = l.length := h.1
 have hkn : (k : Int) ≤ (n : Int) := by omega
 have hk0 : (0 : Int) ≤ (k : Int) := by omega
 have hat := txs_at l base k hk
 have hlen := txs_len l base
 have hn64 : (n : Int) ≤ 64 := by omega
 obtain ⟨t, ht⟩ : ∃ t, txt base l k = t := ⟨_, rfl⟩
 rw [ht] at hat ⊢
 have Hat := Lib.hid hat
 have Hlen := Lib.hid (show (txs base l).length = n + 1 by omega)
 have hkd : decide (n < k) = false := by simp; omega
 clear hc h he hp hat hlen hn ht hk
 go_enter Try.func17, Try.ntmps17
 go_wp2_with fail
 refine Hc.out.mono ?_
 rintro e w1 ⟨A1, n1, c1, rfl, hown, hb⟩
 have ho := hown trivial
 unfold OwnS at ho
 rw [Hlen.out] at ho
 have hnn : n1 = n + 1 ∧ ∃ g, A1 = some ⟨g, 0, none⟩ := by
  rcases ho.2 with ⟨hv, h0⟩ | ⟨g', cap, cur, hv, _⟩
  · omega
  · injection hv with h1 h2 h3; exact ⟨h2, g', h1⟩
 obtain ⟨rfl, g, rfl⟩ := hnn
 have hcl : w1.cell? ⟨g, k, none⟩ = some (.string t) := by
  rw [World.ownsRow.cellAt ho k (by omega), List.getElem?_map, Hat.out]
  rfl
 have hkn2 : (k : Int) < (n : Int) + 1 := by omega
 clear hown ho
 go_wp2_with fail
 go_ret2
 exact ⟨rfl, hb⟩
def vi (n : Nat) : List UInt8 :=
 if n < 128 then [UInt8.ofNat n] else UInt8.ofNat (n % 128 + 128) :: vi (n / 128)
theorem vi_lt (n : Nat) (h : n < 128) : vi n = [UInt8.ofNat n] := by rw [vi, if_pos h]
theorem vi_ge (n : Nat) (h : 128 ≤ n) : vi n = UInt8.ofNat (n % 128 + 128) :: vi (n / 128) := by rw [vi, if_neg (by omega)]
theorem vi_len (k : Nat) : ∀ n : Nat, n < 128 ^ k → 0 < k → (vi n).length ≤ k := by
 induction k with
 | zero => intro n _ h; omega
 | succ k ih =>
   intro n h _
   by_cases h1 : n < 128
   · rw [vi_lt n h1]; simp
   · rw [vi_ge n (by omega)]
     have : n / 128 < 128 ^ k := by rw [Nat.pow_succ] at h; omega
     have h2 : 0 < k := by
      rcases Nat.eq_zero_or_pos k with h0 | h0
      · subst h0; simp at this; omega
      · exact h0
     have := ih (n / 128) this h2
     simp; omega
theorem vi_pos (n : Nat) : 0 < (vi n).length := by
 by_cases h1 : n < 128
 · rw [vi_lt n h1]; simp
 · rw [vi_ge n (by omega)]; simp
theorem or128 (k : Nat) (h : k < 256) : bits BinOp.or IntKind.u8 (k : Int) 128 = ((k % 128 + 128 : Nat) : Int) := by
 have : ∀ k : Fin 256, bits BinOp.or IntKind.u8 (k.val : Int) 128 = ((k.val % 128 + 128 : Nat) : Int) := by decide +kernel
 exact this ⟨k, h⟩
theorem or128' (m : Nat) : Value.int IntKind.u8 (bits BinOp.or IntKind.u8 ((m : Int) % 256) 128) = u8v (UInt8.ofNat (m % 128 + 128)) := by
 rw [show ((m : Int) % 256) = ((m % 256 : Nat) : Int) by omega, or128 _ (by omega)]
 unfold u8v
 congr 1
 simp [UInt8.toNat_ofNat']
 omega
theorem u8v_of (m : Nat) (h : m < 256) : u8v (UInt8.ofNat m) = .int .u8 m := by
 unfold u8v
 congr 1
 simp [UInt8.toNat_ofNat']
 omega
theorem put_bad (n : Int) (w : World) (h : n < 0 ∨ 2147483647 < n) :
 Calls Try.prog 107 #[.int .i64 n] w fun e w' => e = .returned (.tuple #[.string ⟨#[]⟩, .int .i64 1]) ∧ w = w' := by
 by_cases h0 : n < 0
 · go_enter Try.func107, Try.ntmps107
   go_wp2
   go_ret2
   exact ⟨rfl, rfl⟩
 · have h1 : 2147483647 < n := by omega
   go_enter Try.func107, Try.ntmps107
   go_wp2
   go_ret2
   exact ⟨rfl, rfl⟩
theorem put_good (n : Nat) (w : World) (h : (n : Int) ≤ 2147483647) :
 Calls Try.prog 107 #[.int .i64 n] w fun e w' => e = .returned (.tuple #[.string ⟨(vi n).toArray⟩, .int .i64 0]) ∧ Below w.heap.size w w' := by
 have hl := vi_len 5 n (by omega) (by omega)
 go_enter Try.func107, Try.ntmps107
 go_wp2_with fail
 go_loopw [0, 4] (fun n' v wr => ∃ (m : Nat) (acc : List UInt8), n' = .int .i64 m ∧ (m : Int) ≤ 2147483647 ∧ Hid (acc ++ vi m = vi n) ∧ acc.length ≤ 5 ∧ OwnU8 wr w.heap.size v acc ∧ Below w.heap.size w wr)
  (fun n' _ _ => (intOf n').toNat)
 case atStart => exact ⟨n, [], rfl, h, Lib.hid rfl, by simp, OwnU8.nil _ _, Below.refl _ _⟩
 case round =>
  obtain ⟨m, acc, rfl, hm, hv, hacc, hown, hbel⟩ := hrel
  have hB := hbel.size
  by_cases hlt : (m : Int) < 128
  · go_wp2_with (first | (at_builtin; refine wpList_app_u8 _ rfl (.tmp 21) (.tmp 24) rfl w.heap.size _ acc rfl hown _ _ rfl (UInt8.ofNat m) ?_ (by omega) hB ?_; rotate_left; intro v1 w1 hown1 hb1 _ _; have hcv := run_string_own hown1))
    · go_ret2
      refine ⟨?_, hbel.trans hb1⟩
      rw [← hv.out, vi_lt m (by omega)]
      rfl
    · exact (u8v_of m (by omega)).symm
  · go_wp2_with (first | (at_builtin; refine wpList_app_u8 _ rfl (.tmp 13) (.tmp 17) rfl w.heap.size _ acc rfl hown _ _ rfl (UInt8.ofNat (m % 128 + 128)) ?_ (by omega) hB ?_; rotate_left; intro v1 w1 hown1 hb1 _ _))
    · have hc : Hid ((acc ++ [UInt8.ofNat (m % 128 + 128)]) ++ vi (m / 128) = vi n) := by
       have := hv.out
       rw [vi_ge m (by omega)] at this
       exact Lib.hid (by simpa using this)
      have hlen : (acc ++ [UInt8.ofNat (m % 128 + 128)]).length ≤ 5 := by
       have h1 := congrArg List.length hc.out
       have h2 := vi_pos (m / 128)
       simp only [List.length_append] at h1 ⊢
       omega
      go_roundw
      case rel => exact ⟨m / 128, _, by go_num, by omega, hc, hlen, hown1, hbel.trans hb1⟩
      case measure => simp [intOf]; omega
    · simpa using or128' m
def gn : List UInt8 → Nat → Nat → Nat × Nat × Nat
 | [], _, _ => (0, 0, 5)
 | c :: r, i, n =>
   let n' := n + c.toNat % 128 * 2 ^ (7 * i)
   if c.toNat < 128 then (if (c.toNat = 0 ∧ 0 < i) ∨ 2147483647 < n' then (0, 0, 3) else (n', i + 1, 0))
   else if i = 4 then (0, 0, 3) else gn r (i + 1) n'

end Go.Proofs.Ytokngfinnieccaa
namespace Go.Proofs.Ytokngfinnieccaa
set_option linter.unusedVariables false
set_option linter.unusedSimpArgs false
set_option maxRecDepth 100000
set_option maxHeartbeats 4000000
def wrP (p : Pt) : List UInt8 := if p.1 = 2 then vi (4 * p.2.2.size + 2) ++ p.2.2.data.toList else vi (4 * p.2.1.toNat + p.1.toNat)
def wrL (l : List Pt) : List UInt8 := vi l.length ++ l.flatMap wrP
end Go.Proofs.Ytokngfinnieccaa
