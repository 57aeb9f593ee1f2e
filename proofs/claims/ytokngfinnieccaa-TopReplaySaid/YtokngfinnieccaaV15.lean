/- What is read of a slot that is cut (pure). Contract of hot.Done. Contract of hot.nums. What is written into a log is read again (pure). slices.Clone of ints. What turn.Of says; plain lists, no program. What undo.Of says, and what comes between two revisions; plain lists, no program. Whose each byte is; plain lists, no program. Contract of blame.Of. -/
import Derived.Test.YtokngfinnieccaaV14
import Derived.Test.YtokngfinnieccaaV9
import Derived.Test.YtokngfinnieccaaV4
import Derived.Test.YtokngfinnieccaaV10
namespace Go.Proofs.Ytokngfinnieccaa
set_option linter.unusedVariables false
set_option linter.unusedSimpArgs false
set_option maxRecDepth 100000
set_option maxHeartbeats 4000000
theorem rd_stop3 {l : Lg} {t b : ByteArray} {fs : List Fm} (h : l.whole = true ∨ b.size ≠ 0) : readF l t ((3, b) :: fs) = l := by
 conv => lhs; unfold readF
 rw [if_pos rfl, if_pos h]
theorem rd_go3 {l : Lg} {t b : ByteArray} {fs : List Fm} (h : ¬ (l.whole = true ∨ b.size ≠ 0)) : readF l t ((3, b) :: fs) = readF { l with whole := true, good := l.good + ((b.size : Int) + 7) } t fs := by
 conv => lhs; unfold readF
 rw [if_pos rfl, if_neg h]
 rfl
theorem rd_stop2 {l : Lg} {t b : ByteArray} {fs : List Fm} (h : ¬ (rvOk b.data.toList = true ∧ nextE l t.size (rvV b.data.toList) = 0)) : readF l t ((2, b) :: fs) = l := by
 conv => lhs; unfold readF
 rw [if_neg (show ¬ (2 : Int) = 3 by decide), if_pos rfl, if_neg h]
theorem rd_go2 {l : Lg} {t b : ByteArray} {fs : List Fm} (h : rvOk b.data.toList = true ∧ nextE l t.size (rvV b.data.toList) = 0) : readF l t ((2, b) :: fs) = readF { addL l (rvV b.data.toList) with good := l.good + ((b.size : Int) + 7) } (doS (rvV b.data.toList).2.2 t) fs := by
 conv => lhs; unfold readF
 rw [if_neg (show ¬ (2 : Int) = 3 by decide), if_pos rfl, if_pos h]
 rfl
theorem rd_stop {K : Int} {l : Lg} {t b : ByteArray} {fs : List Fm} (h3 : K ≠ 3) (h2 : K ≠ 2) : readF l t ((K, b) :: fs) = l := by
 conv => lhs; unfold readF
 rw [if_neg (show ¬ ((K, b) : Fm).1 = 3 from h3), if_neg (show ¬ ((K, b) : Fm).1 = 2 from h2)]
theorem readF_same : ∀ (fs : List Fm) (l : Lg) (t : ByteArray), (readF l t fs).gen = l.gen ∧ (readF l t fs).base = l.base ∧ (readF l t fs).text = l.text ∧ (readF l t fs).first = l.first ∧ l.revs <+: (readF l t fs).revs ∧ l.good ≤ (readF l t fs).good ∧ (readF l t fs).table.length = l.table.length
 | [], l, t => ⟨rfl, rfl, rfl, rfl, List.prefix_refl _, Int.le_refl _, rfl⟩
 | f :: fs, l, t => by
   unfold readF
   split
   · split
     · exact ⟨rfl, rfl, rfl, rfl, List.prefix_refl _, Int.le_refl _, rfl⟩
     · obtain ⟨a, b, c, d, e, g, i⟩ := readF_same fs { l with whole := true, good := l.good + ((f.2.size + 7 : Nat) : Int) } t
       exact ⟨a, b, c, d, e, Int.le_trans (Int.le_add_of_nonneg_right (by omega)) g, i⟩
   · split
     · split
       · obtain ⟨a, b, c, d, e, g, i⟩ := readF_same fs { addL l (rvV f.2.data.toList) with good := l.good + ((f.2.size + 7 : Nat) : Int) } (doS (rvV f.2.data.toList).2.2 t)
         exact ⟨a, b, c, d, (List.prefix_append _ _).trans e, Int.le_trans (Int.le_add_of_nonneg_right (by omega)) g, by rw [i]; simp [addL]⟩
       · exact ⟨rfl, rfl, rfl, rfl, List.prefix_refl _, Int.le_refl _, rfl⟩
     · exact ⟨rfl, rfl, rfl, rfl, List.prefix_refl _, Int.le_refl _, rfl⟩
theorem readF_good : ∀ (fs : List Fm) (l : Lg) (t : ByteArray), ∃ j, j ≤ fs.length ∧ readF l t (fs.take j) = readF l t fs ∧ (readF l t fs).good = l.good + ((flat (fs.take j)).length : Nat)
 | [], l, t => ⟨0, Nat.le_refl _, rfl, by simp [readF, flat]⟩
 | (K, b) :: fs, l, t => by
   have stop : readF l t ((K, b) :: fs) = l → ∃ j, j ≤ ((K, b) :: fs).length ∧ readF l t (((K, b) :: fs).take j) = readF l t ((K, b) :: fs) ∧ (readF l t ((K, b) :: fs)).good = l.good + ((flat (((K, b) :: fs).take j)).length : Nat) := fun h =>
    ⟨0, Nat.zero_le _, by rw [h]; rfl, by rw [h]; simp [flat]⟩
   have hl : ∀ j, ((flat (((K, b) :: fs).take (j + 1))).length : Int) = ((b.size : Int) + 7) + ((flat (fs.take j)).length : Nat) := fun j => by
    simp only [List.take_succ_cons, flat, List.length_append, txF_len]; omega
   by_cases h3 : K = 3
   · subst h3
     by_cases hw : l.whole = true ∨ b.size ≠ 0
     · exact stop (rd_stop3 hw)
     · obtain ⟨j, hj, e1, e2⟩ := readF_good fs { l with whole := true, good := l.good + ((b.size : Int) + 7) } t
       refine ⟨j + 1, by simp; omega, ?_, ?_⟩
       · rw [List.take_succ_cons, rd_go3 hw, rd_go3 hw]; exact e1
       · rw [hl, rd_go3 hw, e2, Int.add_assoc]
   · by_cases h2 : K = 2
     · subst h2
       by_cases hn : rvOk b.data.toList = true ∧ nextE l t.size (rvV b.data.toList) = 0
       · obtain ⟨j, hj, e1, e2⟩ := readF_good fs { addL l (rvV b.data.toList) with good := l.good + ((b.size : Int) + 7) } (doS (rvV b.data.toList).2.2 t)
         refine ⟨j + 1, by simp; omega, ?_, ?_⟩
         · rw [List.take_succ_cons, rd_go2 hn, rd_go2 hn]; exact e1
         · rw [hl, rd_go2 hn, e2, Int.add_assoc]
       · exact stop (rd_stop2 hn)
     · exact stop (rd_stop h3 h2)
theorem hot_good (fs : List Fm) (h : hotE fs = 0) : ∃ j, j ≤ fs.length ∧ hotE (fs.take j) = 0 ∧ hotL (fs.take j) = hotL fs ∧ (hotL fs).good = ((flat (fs.take j)).length : Nat) ∧ 7 ≤ (hotL fs).good := by
 cases fs with
 | nil => exact absurd h (by decide)
 | cons f fs =>
   simp only [hotE] at h
   by_cases hc : f.1 ≠ 1 ∨ hdOk f.2.data.toList = false
   · rw [if_pos hc] at h; exact absurd h (by decide)
   · obtain ⟨j, hj, e1, e2⟩ := readF_good fs { hdL f.2.data.toList with good := ((f.2.size + 7 : Nat) : Int) } (hdL f.2.data.toList).text
     refine ⟨j + 1, by simp; omega, ?_, ?_, ?_, ?_⟩
     · simp only [List.take_succ_cons, hotE, if_neg hc]
     · simp only [List.take_succ_cons, hotL, if_neg hc]; exact e1
     · simp only [List.take_succ_cons, hotL, if_neg hc, flat, List.length_append, txF_len]; rw [e2]; simp only; omega
     · simp only [hotL, if_neg hc]; rw [e2]; simp only; omega
end Go.Proofs.Ytokngfinnieccaa
namespace Go.Proofs.Ytokngfinnieccaa
open Go.ChangeShapes Go.WideShapes Go.RowKit
set_option linter.unusedVariables false
set_option linter.unusedSimpArgs false
set_option maxRecDepth 100000
set_option maxHeartbeats 4000000
def doneT : ByteArray := ⟨#[3, 0, 0, 9, 99, 74, 138]⟩
theorem doneT_tx : doneT.data.toList = txF (3, ⟨#[]⟩) := by
 have := frL_zero
 unfold txF
 exact this.symm
theorem hdone_any (w : World) : Calls Try.prog 83 #[] w fun e w' => e = .returned (.string doneT) ∧ Below w.heap.size w w' := by
 have hc := put_okF (3, ⟨#[]⟩) (by decide) w
 rw [← doneT_tx] at hc
 have hc2 : Calls Try.prog 111 #[.agg #[.int .i64 3, .string ⟨#[]⟩]] w fun e w' => e = .returned (.tuple #[.string doneT, .int .i64 0]) ∧ Below w.heap.size w w' := hc
 clear hc
 obtain ⟨D, hD⟩ : ∃ D, doneT = D := ⟨_, rfl⟩
 rw [hD] at hc2 ⊢
 go_enter Try.func83, Try.ntmps83
 go_wp2_with fail
 refine hc2.mono ?_
 rintro e w1 ⟨rfl, hb⟩
 go_wp2_with fail
 go_ret
 exact ⟨rfl, hb⟩
def viC (ns : List Nat) : List UInt8 := ns.flatMap vi
theorem nums_good (ns : List Nat) (A : Option Addr) (n c : Nat) (w : World) (h : RdI w w.heap.size A n c (ns.map Int.ofNat)) (hle : ∀ x ∈ ns, x ≤ 2147483647) (hn : ns.length ≤ 100) (S : ByteArray) (hS : S.data.toList = viC ns) :
 Calls Try.prog 109 #[.slice A n c] w fun e w' => e = .returned (.tuple #[.string S, .bool true]) ∧ Below w.heap.size w w' := by
 have H := Lib.hid h
 have Hle := Lib.hid hle
 have HS := Lib.hid hS
 have hnl : n = ns.length := by have := h.1; simpa using this
 have Hnl := Lib.hid hnl
 have hn100 : n ≤ 100 := by omega
 clear h hle hS hnl hn
 go_enter Try.func109, Try.ntmps109
 go_wp2_with fail
 go_loopw [4, 6, 7, 8, 11] (fun ov nv sv ev iv wr => ∃ (k : Nat) (T : ByteArray), k ≤ n ∧ iv = .int .i64 k ∧ ov = .string T ∧ T.size ≤ 5 * k ∧ Hid (T.data.toList = viC (ns.take k)) ∧ Hid (Below w.heap.size w wr)) (fun _ _ _ _ iv _ => n - (intOf iv).toNat)
 case atStart => exact ⟨0, ⟨#[]⟩, by omega, rfl, rfl, Nat.zero_le _, Lib.hid rfl, Lib.hid (Below.refl _ _)⟩
 case round =>
  obtain ⟨k, T, hk, rfl, rfl, hT5, hT, hbw⟩ := hrel
  by_cases hlt : k < n
  · have hkl : k < ns.length := by have := Hnl.out; omega
    obtain ⟨b, o, rfl, hb, hc⟩ := (H.out.below hbw.out).at_ k hlt
    simp only [List.getElem_map, Int.ofNat_eq_natCast] at hc
    obtain ⟨x, hx⟩ : ∃ x, ns[k] = x := ⟨_, rfl⟩
    have hxm : x ≤ 2147483647 := by rw [← hx]; exact Hle.out _ (List.getElem_mem hkl)
    rw [hx] at hc
    have hk0 : (0 : Int) ≤ (k : Int) := by omega
    have hkn : (k : Int) < (n : Int) := by omega
    have hgl : b < wr.heap.size := by have := hbw.out.size; omega
    obtain ⟨z, hz⟩ : ∃ z, (⟨(vi x).toArray⟩ : ByteArray) = z := ⟨_, rfl⟩
    obtain ⟨hz5, hzl⟩ := vi_size x z hz hxm
    have hcall := put_good x wr (by omega)
    rw [hz] at hcall
    have Hcall := Lib.hid hcall
    have hT2 : (T ++ z).data.toList = viC (ns.take (k + 1)) := by
     rw [bs_append, hT.out, hzl, List.take_succ_eq_append_getElem hkl, hx]
     simp [viC]
    have HT2 := Lib.hid hT2
    have hsz : (9223372036854775807 < T.size + z.size) = False := by simp; omega
    have hsz2 : (T ++ z).size ≤ 5 * (k + 1) := by simp; omega
    clear hcall hz hzl hT2 hx hT
    go_wp2_with fail
    refine Hcall.out.mono ?_
    rintro e w1 ⟨rfl, hb1⟩
    have hw1 := hbw.out.trans (hb1.mono hbw.out.size)
    go_wp2_with fail
    go_roundw
    case rel => exact ⟨k + 1, T ++ z, by omega, by go_num, rfl, hsz2, HT2, Lib.hid hw1⟩
    case measure => simp [intOf]; omega
  · obtain rfl : k = n := by omega
    have hTS : T = S := by
     apply ba_list
     rw [hT.out, HS.out, List.take_of_length_le (by have := Hnl.out; omega)]
    subst hTS
    go_wp2_with fail
    go_ret2
    exact ⟨rfl, hbw.out⟩
end Go.Proofs.Ytokngfinnieccaa
namespace Go.Proofs.Ytokngfinnieccaa
set_option linter.unusedVariables false
set_option linter.unusedSimpArgs false
set_option maxRecDepth 100000
set_option maxHeartbeats 4000000
theorem wrP_w (p : Pt) (h : fitE p = 0) : ((wrP p).length : Int) ≤ 3 * (szI [p] + szO [p]) := by
 obtain ⟨h1, h2, h3⟩ := (fitE_zero p).1 h
 have ht : p.2.2.data.toList.length = p.2.2.size := rfl
 unfold wrP
 rcases h1 with ⟨ha, hb, hc⟩ | ⟨ha, hb, hc⟩
 · have h2' : p.1 ≠ 2 := by omega
   rw [if_neg h2']
   have := vi_len 2 (4 * p.2.1.toNat + p.1.toNat) (by omega) (by omega)
   simp only [szI, szO, if_pos ha]
   split
   · omega
   · split <;> omega
 · have h2' : ¬ (p.1 = 1 ∨ p.1 = 3) := by omega
   rw [if_pos ha, List.length_append, ht]
   have := vi_len 2 (4 * p.2.2.size + 2) (by omega) (by omega)
   simp only [szI, szO, if_neg h2', if_neg (show ¬ p.1 = 1 by omega), if_neg (show ¬ p.1 = 3 by omega)]
   omega
theorem wrM_w : ∀ (l : List Pt), (∀ p ∈ l, fitE p = 0) → ((l.flatMap wrP).length : Int) ≤ 3 * (szI l + szO l)
 | [], _ => by simp [szI, szO]
 | p :: l, h => by
   have h1 := wrP_w p (h p (by simp))
   have h2 := wrM_w l fun q hq => h q (by simp [hq])
   rw [List.flatMap_cons, List.length_append]
   simp only [szI, szO] at h1 h2 ⊢
   omega
theorem wr_small {l : List Pt} (h : chk l = 0) : (wrL l).length ≤ 3010 := by
 have hg := (good_iff l).1 h
 have := wrM_w l hg.2.2.1
 have := vi_len 2 l.length (by omega) (by omega)
 unfold wrL
 rw [List.length_append]
 omega
def bodyR (r : Rv) : List UInt8 := vi r.1.toNat ++ (vi r.2.1.toNat ++ wrL r.2.2)
def frR (r : Rv) : Fm := (2, ⟨(bodyR r).toArray⟩)
theorem one_parts {r : Rv} (h : oneE r = 0) : 0 ≤ r.1 ∧ r.1 ≤ 7 ∧ 0 ≤ r.2.1 ∧ r.2.1 ≤ 2147483647 ∧ chk r.2.2 = 0 := by
 unfold oneE at h
 split at h
 · omega
 · rename_i h1; exact ⟨by omega, by omega, by omega, by omega, h⟩
theorem body_len {r : Rv} (h : oneE r = 0) : (bodyR r).length ≤ 4000 := by
 obtain ⟨h1, h2, h3, h4, h5⟩ := one_parts h
 have a := vi_len 1 r.1.toNat (by omega) (by omega)
 have b := vi_len 5 r.2.1.toNat (by omega) (by omega)
 have c := wr_small h5
 simp only [bodyR, List.length_append]
 omega
theorem frR_ok {r : Rv} (h : oneE r = 0) : okF (frR r) := ⟨by show (1 : Int) ≤ 2; decide, by show (2 : Int) ≤ 255; decide, by show (bodyR r).toArray.size ≤ 4000; rw [List.size_toArray]; exact body_len h⟩
theorem rv_back {r : Rv} (h : oneE r = 0) : rvV (bodyR r) = r ∧ rvOk (bodyR r) = true := by
 obtain ⟨h1, h2, h3, h4, h5⟩ := one_parts h
 have e1 : rN (bodyR r) = (r.1.toNat, vi r.2.1.toNat ++ wrL r.2.2, false) := rN_vi _ (by omega) _
 have e2 : rN (vi r.2.1.toNat ++ wrL r.2.2) = (r.2.1.toNat, wrL r.2.2, false) := rN_vi _ (by omega) _
 have e3 := read_back h5
 have hv : rvV (bodyR r) = r := by
  unfold rvV
  rw [e1]; simp only
  rw [e2]; simp only
  rw [e3.2]
  obtain ⟨a, b, d⟩ := r
  simp only at h1 h3 ⊢
  rw [Int.toNat_of_nonneg h1, Int.toNat_of_nonneg h3]
 refine ⟨hv, ?_⟩
 unfold rvOk
 rw [hv, h, e1]; simp only
 rw [e2]; simp only
 rw [e3.1]
 rfl
theorem readF_rev (l : Lg) (t : ByteArray) (r : Rv) (fs : List Fm) (h : oneE r = 0) (hn : nextE l t.size r = 0) :
 readF l t (frR r :: fs) = readF { addL l r with good := l.good + (((bodyR r).length + 7 : Nat) : Int) } (doS r.2.2 t) fs := by
 have e := rv_back h
 have hd : (frR r).2.data.toList = bodyR r := rfl
 have hs : (frR r).2.size = (bodyR r).length := by show (bodyR r).toArray.size = _; rw [List.size_toArray]
 conv => lhs; unfold readF
 rw [if_neg (show ¬ (frR r).1 = 3 from (by decide : ¬ (2 : Int) = 3)), if_pos (show (frR r).1 = 2 from rfl), hd, e.1, e.2, if_pos ⟨rfl, hn⟩, hs]
theorem readF_done (l : Lg) (t : ByteArray) (fs : List Fm) (h : l.whole = false) :
 readF l t ((3, ⟨#[]⟩) :: fs) = readF { l with whole := true, good := l.good + 7 } t fs := by
 conv => lhs; unfold readF
 rw [if_pos rfl, if_neg (by rw [h]; decide)]
 rfl
def okRs : Lg → ByteArray → List Rv → Prop
 | _, _, [] => True
 | l, t, r :: rs => oneE r = 0 ∧ nextE l t.size r = 0 ∧ okRs { addL l r with good := l.good + (((bodyR r).length + 7 : Nat) : Int) } (doS r.2.2 t) rs
def addLs : Lg → List Rv → Lg
 | l, [] => l
 | l, r :: rs => addLs { addL l r with good := l.good + (((bodyR r).length + 7 : Nat) : Int) } rs
theorem readF_revs : ∀ (rs : List Rv) (l : Lg) (t : ByteArray) (fs : List Fm), okRs l t rs → readF l t (rs.map frR ++ fs) = readF (addLs l rs) (txt t rs rs.length) fs
 | [], l, t, fs, _ => rfl
 | r :: rs, l, t, fs, h => by
   obtain ⟨h1, h2, h3⟩ := h
   rw [List.map_cons, List.cons_append, readF_rev l t r _ h1 h2, readF_revs rs _ _ fs h3]
   rfl
theorem addLs_same : ∀ (rs : List Rv) (l : Lg), (addLs l rs).gen = l.gen ∧ (addLs l rs).base = l.base ∧ (addLs l rs).text = l.text ∧ (addLs l rs).first = l.first ∧ (addLs l rs).revs = l.revs ++ rs ∧ (addLs l rs).whole = l.whole ∧ (addLs l rs).good = l.good + ((flat (rs.map frR)).length : Nat)
 | [], l => by simp [addLs, flat]
 | r :: rs, l => by
   obtain ⟨a, b, c, d, e, f, g⟩ := addLs_same rs { addL l r with good := l.good + (((bodyR r).length + 7 : Nat) : Int) }
   have hs : (frR r).2.size = (bodyR r).length := by show (bodyR r).toArray.size = _; rw [List.size_toArray]
   refine ⟨a, b, c, d, ?_, f, ?_⟩
   · simp only [addLs]; rw [e]; simp [addL]
   · simp only [addLs, List.map_cons, flat, List.length_append, txF_len]; rw [g, hs]; simp only [addL]; omega
structure Hg (l : Lg) (t : ByteArray) : Prop extends Rd_ l t where
 tx : txE l.text l.revs = 0
 now : Go.Proofs.Ytokngfinnieccaa.txt l.text l.revs l.revs.length = t
theorem txr_snoc : ∀ (l : List Rv) (s : ByteArray) (r : Rv), txr s l = 0 → oneE r = 0 → doE r.2.2 (txt s l l.length) = 0 → txr s (l ++ [r]) = 0
 | [], s, r, _, h1, h2 => by simp only [List.nil_append, txr]; rw [if_neg (by omega), if_neg (by simpa [txt] using h2)]
 | q :: l, s, r, h, h1, h2 => by
   simp only [List.cons_append, txr] at h ⊢
   split at h
   · omega
   · rename_i a
     rw [if_neg a]
     split at h
     · omega
     · rename_i b
       rw [if_neg b]
       exact txr_snoc l _ r h h1 h2
theorem txt_snoc : ∀ (l : List Rv) (s : ByteArray) (r : Rv), txt s (l ++ [r]) (l.length + 1) = doS r.2.2 (txt s l l.length)
 | [], s, r => rfl
 | q :: l, s, r => txt_snoc l _ r
theorem Hg.done {l : Lg} {t : ByteArray} (h : Hg l t) (g : Int) : Hg { l with whole := true, good := g } t := ⟨h.toRd_.done g, h.tx, h.now⟩
theorem Hg.add {l : Lg} {t : ByteArray} {r : Rv} (h : Hg l t) (hn : nextE l t.size r = 0) (g : Int) : Hg { addL l r with good := g } (doS r.2.2 t) := by
 obtain ⟨a, b, c, d, e⟩ := next_len hn
 obtain ⟨p1, p2, p3⟩ := txE_parts h.tx
 refine ⟨h.toRd_.add hn g, ?_, ?_⟩
 · refine txE_zero p1 (by simp [addL]; omega) (txr_snoc _ _ _ p3 a ?_)
   show doE r.2.2 (Go.Proofs.Ytokngfinnieccaa.txt l.text l.revs l.revs.length) = 0
   rw [h.now]; exact e
 · show txt l.text (l.revs ++ [r]) (l.revs ++ [r]).length = _
   rw [List.length_append, List.length_singleton, txt_snoc, h.now]
theorem rN_le (s : List UInt8) : (rN s).1 ≤ 2147483647 := by
 by_cases h : (rN s).2.2 = false
 · exact (rN_inv (s := s) (n := (rN s).1) (s1 := (rN s).2.1) (by rw [← h])).2
 · unfold rN at h ⊢
   split
   · rename_i h0; rw [if_pos h0] at h; exact absurd rfl h
   · exact Nat.zero_le _
theorem hd_base (s : List UInt8) : 0 ≤ (hdL s).base ∧ (hdL s).base ≤ 2147483647 := by
 have : (hdL s).base = ((rN (rN s).2.1).1 : Int) := rfl
 have := rN_le (rN s).2.1
 omega
theorem hd_Hg {s : List UInt8} (h : hdOk s = true) (g : Int) : Hg { hdL s with good := g } (hdL s).text := by
 have hb := hd_base s
 have ht : (hdL s).text.size ≤ 500 := by
  unfold hdOk at h
  simp only [Bool.and_eq_true, decide_eq_true_eq] at h
  show (hdR s).2.1.toArray.size ≤ 500
  rw [List.size_toArray]; exact h.2
 have key : ∀ l : Lg, Lg8 l → 0 ≤ l.base → l.base ≤ 2147483647 → l.revs = [] → l.text.size ≤ 500 → Hg { l with good := g } l.text := by
  intro l h1 h2 h3 h4 h5
  refine ⟨⟨h1, h2, h3, by simp [h4], h5⟩, ?_, ?_⟩
  · show txE l.text l.revs = 0
    rw [h4]; exact txE_zero h5 (Nat.zero_le _) rfl
  · show Go.Proofs.Ytokngfinnieccaa.txt l.text l.revs l.revs.length = l.text
    rw [h4]; rfl
 exact key _ (hdL_8 s) hb.1 hb.2 rfl ht
def tkB (t : List (Nat × Nat)) : List UInt8 := t.flatMap fun p => vi p.1 ++ vi p.2
theorem tk2_back : ∀ (t : List (Nat × Nat)) (b : Bool) (rest : List UInt8), (∀ p ∈ t, p.1 ≤ 2147483647 ∧ p.2 ≤ 2147483647) → tk2 t.length (tkB t ++ rest) b = (t.map fun p => ((p.1 : Int), (p.2 : Int)), rest, b)
 | [], b, rest, _ => rfl
 | p :: t, b, rest, h => by
   obtain ⟨h1, h2⟩ := h p (by simp)
   have e1 : rN (tkB (p :: t) ++ rest) = (p.1, vi p.2 ++ (tkB t ++ rest), false) := by
    simp only [tkB, List.flatMap_cons, List.append_assoc]
    exact rN_vi _ h1 _
   have e2 : rN (vi p.2 ++ (tkB t ++ rest)) = (p.2, tkB t ++ rest, false) := rN_vi _ h2 _
   simp only [List.length_cons, tk2]
   rw [e1]; simp only
   rw [e2]; simp only
   rw [tk2_back t _ rest (fun q hq => h q (List.mem_cons_of_mem _ hq))]
   simp
def headB (t : List (Nat × Nat)) (text : ByteArray) : List UInt8 := tkB t ++ text.data.toList
theorem head_back (g b : Nat) (t : List (Nat × Nat)) (text : ByteArray) (ht : t.length = 8) (hg : g ≤ 2147483647) (hb : b ≤ 2147483647) (h : ∀ p ∈ t, p.1 ≤ 2147483647 ∧ p.2 ≤ 2147483647) (hx : text.size ≤ 500) :
 hdL (headB ((g, b) :: t) text) = ⟨g, b, text, t.map (fun p => ((p.1 : Int), (p.2 : Int))), t.map (fun p => ((p.1 : Int), (p.2 : Int))), [], false, 0⟩ ∧ hdOk (headB ((g, b) :: t) text) = true := by
 have e : hdR (headB ((g, b) :: t) text) = (((g : Int), (b : Int)) :: t.map (fun p => ((p.1 : Int), (p.2 : Int))), text.data.toList, true) := by
  unfold hdR headB
  have := tk2_back ((g, b) :: t) true text.data.toList (by
   intro p hp
   rcases List.mem_cons.1 hp with rfl | hp
   · exact ⟨hg, hb⟩
   · exact h p hp)
  rw [List.length_cons, ht] at this
  exact this
 have hsz : text.data.toList.length = text.size := rfl
 constructor
 · unfold hdL
   rw [e]
   simp
 · unfold hdOk
   rw [e]
   simp only [hsz, Bool.true_and, decide_eq_true_eq]
   exact hx
theorem tkB_len : ∀ (t : List (Nat × Nat)), (∀ p ∈ t, p.1 ≤ 2147483647 ∧ p.2 ≤ 2147483647) → (tkB t).length ≤ 10 * t.length
 | [], _ => Nat.le_refl _
 | p :: t, h => by
   obtain ⟨h1, h2⟩ := h p (by simp)
   have a := vi_len 5 p.1 (by omega) (by omega)
   have b := vi_len 5 p.2 (by omega) (by omega)
   have c := tkB_len t fun q hq => h q (List.mem_cons_of_mem _ hq)
   simp only [tkB, List.flatMap_cons, List.length_append, List.length_cons] at c ⊢
   omega
end Go.Proofs.Ytokngfinnieccaa
namespace Go.Proofs.Ytokngfinnieccaa
open Go.ChangeShapes Go.WideShapes Go.RowKit
set_option linter.unusedVariables false
set_option linter.unusedSimpArgs false
set_option maxRecDepth 100000
set_option maxHeartbeats 4000000

end Go.Proofs.Ytokngfinnieccaa
namespace Go.Proofs.Ytokngfinnieccaa
set_option linter.unusedVariables false
set_option linter.unusedSimpArgs false
set_option maxRecDepth 100000
set_option maxHeartbeats 4000000
theorem comp_do {a b : List Pt} {s : ByteArray} (h1 : doE a s = 0) (h2 : doE b (doS a s) = 0) : compE a b = 0 ∧ doE (compL a b) s = 0 ∧ doS (compL a b) s = doS b (doS a s) := by
 obtain ⟨ka, na, _, _⟩ := do_chk h1
 obtain ⟨kb, nb, _, _⟩ := do_chk h2
 have hab : nO (units a) = nI (units b) := by rw [nb, do_size h1]
 have e := comp_zero ka kb hab
 have e2 : doE (compL a b) s = 0 := do_zero (comp_chk e).2.2.2.2 (by rw [(comp_sizes e).1, na])
 refine ⟨e, e2, ba_list ?_⟩
 have na' : nI (units a) = s.data.toList.length := na
 rw [do_list e2, do_list h2, do_list h1, comp_units e, ap_cz id _ _ (by rw [nI_cmp _ _ hab, na']), ap_cmp id _ _ hab _ na']
def mtE : List Pt → List Rv → Int
 | _, [] => 0
 | o, r :: l => if meetE r.2.2 o ≠ 0 then meetE r.2.2 o else mtE (meetD r.2.2 o) l
def mtL : List Pt → List Rv → List Pt
 | o, [] => o
 | o, r :: l => mtL (meetD r.2.2 o) l
theorem mt_step {o : List Pt} {r : Rv} {l : List Rv} {E : Int} {R : List Pt} (h : mtE o (r :: l) = E ∧ (E = 0 → mtL o (r :: l) = R)) :
 (meetE r.2.2 o ≠ 0 → E = meetE r.2.2 o) ∧ (meetE r.2.2 o = 0 → mtE (meetD r.2.2 o) l = E ∧ (E = 0 → mtL (meetD r.2.2 o) l = R)) := by
 obtain ⟨h1, h2⟩ := h
 simp only [mtE] at h1
 refine ⟨fun h3 => ?_, fun h3 => ?_⟩
 · rw [if_pos h3] at h1; exact h1.symm
 · rw [if_neg (by omega)] at h1; exact ⟨h1, h2⟩
theorem txr_at : ∀ (l : List Rv) (s : ByteArray) (k : Nat) (h : k < l.length), txr s l = 0 → oneE l[k] = 0 ∧ doE (l[k]).2.2 (txt s l k) = 0 ∧ txt s l (k + 1) = doS (l[k]).2.2 (txt s l k)
 | [], s, k, h, _ => absurd h (by simp)
 | r :: l, s, 0, _, h => by
   simp only [txr] at h
   split at h
   · omega
   · split at h
     · omega
     · rename_i h1 h2
       refine ⟨by simpa using h1, by simpa [txt] using h2, ?_⟩
       cases l <;> simp [txt]
 | r :: l, s, k + 1, hk, h => by
   simp only [txr] at h
   split at h
   · omega
   · split at h
     · omega
     · have := txr_at l (doS r.2.2 s) k (by simpa using hk) h
       simpa [txt] using this
theorem mt_good : ∀ (l : List Rv) (o : List Pt), chk o = 0 → mtE o l = 0 → chk (mtL o l) = 0 ∧ nP (units (mtL o l)) = nP (units o)
 | [], o, h, _ => ⟨h, rfl⟩
 | r :: l, o, h, h2 => by
   simp only [mtE] at h2
   split at h2
   · omega
   · rename_i h3
     have h3' : meetE r.2.2 o = 0 := by omega
     have := mt_good l (meetD r.2.2 o) (meet_good h3').2 h2
     simp only [mtL]
     exact ⟨this.1, by rw [this.2, (meet_sizes h3').2.2.2.2]⟩
def blL : Nat → List Int → List Rv → List Int
 | _, who, [] => who
 | k, who, r :: l => blL (k + 1) (ap (fun _ => (k : Int) + 1) (units r.2.2) who) l
def blame (base : ByteArray) (l : List Rv) : List Int := blL 0 (List.replicate base.size 0) l
end Go.Proofs.Ytokngfinnieccaa
namespace Go.Proofs.Ytokngfinnieccaa
open Go.ChangeShapes Go.WideShapes Go.RowKit
set_option linter.unusedVariables false
set_option linter.unusedSimpArgs false
set_option maxRecDepth 100000
set_option maxHeartbeats 4000000
theorem RdI.builtS (w : World) (cs : Array Value) (l : List Int) (n : Nat) (hn : n = l.length) (hc : cs.toList = ic l) (hm : n ≤ maxLen) : RdI (w.alloc (.cells cs 3)) (w.alloc (.cells cs 3)).heap.size (some ⟨w.heap.size, 0, none⟩) n n l := by
 have := RdI.built w cs l n hn hc hm
 rwa [show w.heap.size + 1 = (w.alloc (.cells cs 3)).heap.size by simp] at this
theorem wpList_app_intsG {ops : Array Oper} {rest : List Oper} {o : Oper} {a : Act} {Q : Exit → Act → World → Prop} (w : World) (hgd : o.guard = none) (s x : Operand)
 (ho : o.op = .call { callee := .builtin .append, args := #[s, x], argTypes := #[33, 33] })
 (B : Nat) (v : Value) (l : List Int) (hs : a.eval s = v) (hown : OwnI w B v l)
 (A : Option Addr) (m c B' : Nat) (l' : List Int) (hx : a.eval x = .slice A m c) (hr : RdI w B' A m c l')
 (hn : l.length + m ≤ 4000000) (hB : B ≤ w.heap.size)
 (h : ∀ v' w', OwnI w' B v' (l ++ l') → Below B w w' → w.grownBy w' v.ownBlock → wpList Try.prog ops Q rest (a.put o.dst v') w') :
 wpList Try.prog ops Q (o :: rest) a w := by
 obtain ⟨i0, hi, hz0, hz1, hz2⟩ := info_parts Try.info_int
 refine wpList_append_any w hgd s x 33 ho B 3 i0 _ 1 8 Try.underlying33 hi hz0 hz1 hz2 rfl (by omega) v _ _ hs hown B' A m c (ic l') hx ?_ ?_ (by simp only [maxLen]; omega) (by omega) hB ?_
 · refine ⟨by rw [ic_len, hr.1]; omega, fun h0 => ?_⟩
   obtain ⟨b, o', e, hb, hc⟩ := hr.2.2.2.2 h0
   refine ⟨_, e, hb, fun j u hj => ?_⟩
   have := hc j u hj
   by_cases h00 : j = 0
   · subst h00; simpa [Addr.add] using this
   · simpa [Addr.add, h00] using this
 · intro u hu
   unfold ic at hu
   obtain ⟨p, _, rfl⟩ := List.mem_map.1 hu
   rfl
 · intro v' w' h2 h3 h4
   refine h v' w' ?_ (below_grown h3 hB (own_ge hown)) h3
   unfold OwnI
   have e : ic (l ++ l') = ic l ++ ic l' := by simp [ic]
   rw [e, List.length_append, ← hr.1]
   exact h2
end Go.Proofs.Ytokngfinnieccaa
