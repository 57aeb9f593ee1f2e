/- A log that is written is read as it was written (pure). Contract of shop.New; Keep, Text. Contracts of shop.Text and shop.Keep. Contract of shop.Add. -/
import Derived.Test.YtokngfinnieccaaO11
import Derived.Deep.MidRow
namespace Go.Proofs.Ytokngfinnieccaa
set_option linter.unusedVariables false
set_option linter.unusedSimpArgs false
set_option maxRecDepth 100000
set_option maxHeartbeats 4000000
def tz : List (Nat × Nat) := List.replicate 8 (0, 0)
theorem tz_le : ∀ p ∈ tz, p.1 ≤ 2147483647 ∧ p.2 ≤ 2147483647 := by
 intro p hp
 rw [tz, List.mem_replicate] at hp
 rw [hp.2]
 exact ⟨by decide, by decide⟩
def hf (g b : Nat) (t : List (Nat × Nat)) (text : ByteArray) : Fm := (1, ⟨(headB ((g, b) :: t) text).toArray⟩)
def doneF : Fm := (3, ⟨#[]⟩)
def L0 (g b : Nat) (t : List (Nat × Nat)) (text : ByteArray) : Lg := ⟨g, b, text, tbN t, tbN t, [], false, ((headB ((g, b) :: t) text).length + 7 : Nat)⟩
theorem hdB_tx (g b : Nat) (t : List (Nat × Nat)) (text : ByteArray) : (hdB g b t text).data.toList = txF (hf g b t text) := by simp [hdB, hf]
theorem frB_tx (r : Rv) : (frB r).data.toList = txF (frR r) := by simp [frB]
theorem headB_len (g b : Nat) (t : List (Nat × Nat)) (text : ByteArray) (ht : t.length = 8) (hg : g ≤ 2147483647) (hb : b ≤ 2147483647) (h : ∀ p ∈ t, p.1 ≤ 2147483647 ∧ p.2 ≤ 2147483647) : (headB ((g, b) :: t) text).length ≤ 90 + text.size := by
 have := tkB_len ((g, b) :: t) (by
  intro p hp
  rcases List.mem_cons.1 hp with rfl | hp
  · exact ⟨hg, hb⟩
  · exact h p hp)
 rw [List.length_cons, ht] at this
 have h2 : text.data.toList.length = text.size := rfl
 unfold headB
 rw [List.length_append, h2]
 omega
theorem okRs_snoc : ∀ (rs : List Rv) (l : Lg) (t : ByteArray) (r : Rv), okRs l t rs → oneE r = 0 → nextE (addLs l rs) (txt t rs rs.length).size r = 0 → okRs l t (rs ++ [r])
 | [], l, t, r, _, h1, h2 => ⟨h1, h2, trivial⟩
 | q :: rs, l, t, r, h, h1, h2 => ⟨h.1, h.2.1, okRs_snoc rs _ _ r h.2.2 h1 h2⟩
end Go.Proofs.Ytokngfinnieccaa
namespace Go.Proofs.Ytokngfinnieccaa
open Go.ChangeShapes Go.WideShapes Go.RowKit
set_option linter.unusedVariables false
set_option linter.unusedSimpArgs false
set_option maxRecDepth 100000
set_option maxHeartbeats 4000000
def sh0 : Sh := ⟨dzero, dzero, 0, lg0, ⟨#[]⟩, 0, false⟩
def lgN : Lg := ⟨1, 0, ⟨#[]⟩, tb0, tb0, [], true, 0⟩
theorem built_logN : Try.prog.built 131 [(0, .int .i64 1), (6, .bool true)] = some (lgc lgN (none, 0, 0)) := by kernel_rfl
def dN : ByteArray := hdB 1 0 tz ⟨#[]⟩ ++ doneT
def shN : Sh := ⟨(dN, (dN.size : Int)), dzero, 0, lgN, ⟨#[]⟩, 0, false⟩
theorem shop_table_range {w : World} {q : Nat} {s : Sh} {sl : Sl} {mp : Option Addr} (h : Blk w q 134 (shc s sl mp)) (h8 : Lg8 s.log) : w.rangeAt q 24 (tc s.log.table) := h.range fun j v hj => by
 have hjl : j < 16 := by have := (List.getElem?_eq_some_iff.1 hj).1; rw [tc_len, h8.2] at this; exact this
 rw [show 24 + j = 5 + (19 + j) by omega, shc_log _ (by omega) h8, lgc_at, lgl_table h8 j hjl]; exact hj
theorem shop_log_there {w : World} {q : Nat} {s : Sh} {sl : Sl} {mp : Option Addr} (h : Blk w q 134 (shc s sl mp)) (h8 : Lg8 s.log) : w.there q 5 38 := h.there (by rw [shc_size h8]; decide)
theorem shc_setlog (s : Sh) (sl sl' : Sl) (mp : Option Addr) (l : Lg) (h8 : Lg8 s.log) (h8' : Lg8 l) : setL (shc s sl mp) 5 (lgl l sl') = shc { s with log := l } sl' mp := by
 have e := setL_mid (lgl l sl') (lgl s.log sl) (shP s) (shR s mp) (by rw [lgl_len h8, lgl_len h8'])
 exact e
theorem dN_size : dN.size ≤ 700 := by
 have h1 : (hdB 1 0 tz ⟨#[]⟩).data.toList.length = (hdB 1 0 tz ⟨#[]⟩).size := rfl
 rw [hdB_tx, txF_len] at h1
 have h2 : (hf 1 0 tz ⟨#[]⟩).2.size ≤ 90 + (⟨#[]⟩ : ByteArray).size := by
  show (headB ((1, 0) :: tz) ⟨#[]⟩).toArray.size ≤ _
  rw [List.size_toArray]
  exact headB_len 1 0 tz ⟨#[]⟩ rfl (by decide) (by decide) tz_le
 have h3 : (⟨#[]⟩ : ByteArray).size = 0 := rfl
 have h4 : doneT.size = 7 := rfl
 unfold dN
 rw [ByteArray.size_append]
 omega
theorem snew_any (w : World) :
 Calls Try.prog 41 #[] w fun e w' => ∃ q, e = .returned (.pointer (some ⟨q, 0, none⟩)) ∧ w.heap.size ≤ q ∧ Blk w' q 134 (shc shN (none, 0, 0) none) ∧ Below w.heap.size w w' := by
 have hh : ∀ w, Calls Try.prog 81 #[.int .i64 1, .int .i64 0, .string ⟨#[]⟩, .agg (tc tb0).toArray] w fun e w' => e = .returned (.tuple #[.string (hdB 1 0 tz ⟨#[]⟩), .int .i64 0]) ∧ Below w.heap.size w w' := fun w => hhead_good 1 0 tz ⟨#[]⟩ rfl (by decide) (by decide) tz_le w (by decide)
 have hdn := fun w => hdone_any w
 have hdz := dN_size
 have hcat : hdB 1 0 tz ⟨#[]⟩ ++ doneT = dN := rfl
 have hl1 : dlook sh0.d0 sh0.d1 0 = 0 := by decide
 have hp : ∀ (q : Nat) (w : World), Blk w q 134 (shc sh0 (none, 0, 0) none) → Calls Try.prog 82 #[.pointer (some ⟨q, 0, none⟩), .int .i64 0, .string dN] w fun e w' => e = .returned (.tuple #[]) ∧ Blk w' q 134 (shc { sh0 with d0 := (dN, 0) } (none, 0, 0) none) ∧ Only w w' (fun k => k = q) := by
  intro q w hk
  have hc := sput_any q sh0 (none, 0, 0) none 0 dN w hk hl1 (by omega)
  have e : dapp sh0.d0 sh0.d1 0 dN = ((dN, 0), dzero, 0) := by
   unfold dapp
   rw [if_pos rfl, if_neg (by show ¬ 1048576 < (⟨#[]⟩ : ByteArray).size + dN.size; have : (⟨#[]⟩ : ByteArray).size = 0 := rfl; omega)]
   show ((⟨#[]⟩ ++ dN, (0 : Int)), dzero, (0 : Int)) = _
   rw [show (⟨#[]⟩ : ByteArray) ++ dN = dN from by apply ba_list; rw [bs_append]; rfl]
  rw [e] at hc
  exact hc
 have hsn : ∀ (q : Nat) (w : World), Blk w q 134 (shc { sh0 with d0 := (dN, 0) } (none, 0, 0) none) → Calls Try.prog 84 #[.pointer (some ⟨q, 0, none⟩), .int .i64 0] w fun e w' => e = .returned (.tuple #[]) ∧ Blk w' q 134 (shc { sh0 with d0 := (dN, (dN.size : Int)) } (none, 0, 0) none) ∧ Only w w' (fun k => k = q) := by
  intro q w hk
  have hl2 : dlook (dN, 0) dzero 0 = 0 := by
   have h1 : sbad (dN, 0) = 0 := by unfold sbad; rw [if_neg (by simp only; omega), if_neg (by simp only; omega)]
   have h2 : sbad dzero = 0 := by decide
   have h3 : dchk (dN, 0) dzero = 0 := by unfold dchk; rw [h1, if_neg (by decide), h2]
   unfold dlook
   rw [h3, if_neg (by decide), if_neg (by decide)]
  have hc := ssync_any q { sh0 with d0 := (dN, 0) } (none, 0, 0) none 0 w hk hl2
  exact hc
 have hcz : (9223372036854775807 < (hdB 1 0 tz ⟨#[]⟩).size + doneT.size) = False := by
  have : dN.size = (hdB 1 0 tz ⟨#[]⟩).size + doneT.size := by unfold dN; rw [ByteArray.size_append]
  simp; omega
 obtain ⟨HB, hHB⟩ : ∃ HB, hdB 1 0 tz ⟨#[]⟩ = HB := ⟨_, rfl⟩
 rw [hHB] at hh hcat hcz
 obtain ⟨D, hD⟩ : ∃ D, doneT = D := ⟨_, rfl⟩
 rw [hD] at hdn hcat hcz
 have Hh := Lib.hid hh
 have Hdn := Lib.hid hdn
 have Hcat := Lib.hid hcat
 have Hp := Lib.hid hp
 have Hsn := Lib.hid hsn
 clear hh hdn hcat hp hsn hHB hD hl1 hdz
 go_enter Try.func41, Try.ntmps41
 go_upto_region 2 with (fail)
 have hb := (Below.refl w.heap.size w).alloc (Nat.le_refl _) (.cells #[.string ⟨#[]⟩, .int .i64 0, .string ⟨#[]⟩, .int .i64 0, .int .i64 0, .int .i64 0, .int .i64 0, .string ⟨#[]⟩, .int .i64 0, .int .i64 0, .int .i64 0, .int .i64 0, .int .i64 0, .int .i64 0, .int .i64 0, .int .i64 0, .int .i64 0, .int .i64 0, .int .i64 0, .int .i64 0, .int .i64 0, .int .i64 0, .int .i64 0, .int .i64 0, .int .i64 0, .int .i64 0, .int .i64 0, .int .i64 0, .int .i64 0, .int .i64 0, .int .i64 0, .int .i64 0, .int .i64 0, .int .i64 0, .int .i64 0, .int .i64 0, .int .i64 0, .int .i64 0, .int .i64 0, .int .i64 0, .slice none 0 0, .bool false, .int .i64 0, .string ⟨#[]⟩, .int .i64 0, .pointer none, .bool false] 134)
 have kq0 := Blk.new w 134 #[.string ⟨#[]⟩, .int .i64 0, .string ⟨#[]⟩, .int .i64 0, .int .i64 0, .int .i64 0, .int .i64 0, .string ⟨#[]⟩, .int .i64 0, .int .i64 0, .int .i64 0, .int .i64 0, .int .i64 0, .int .i64 0, .int .i64 0, .int .i64 0, .int .i64 0, .int .i64 0, .int .i64 0, .int .i64 0, .int .i64 0, .int .i64 0, .int .i64 0, .int .i64 0, .int .i64 0, .int .i64 0, .int .i64 0, .int .i64 0, .int .i64 0, .int .i64 0, .int .i64 0, .int .i64 0, .int .i64 0, .int .i64 0, .int .i64 0, .int .i64 0, .int .i64 0, .int .i64 0, .int .i64 0, .int .i64 0, .slice none 0 0, .bool false, .int .i64 0, .string ⟨#[]⟩, .int .i64 0, .pointer none, .bool false]
 obtain ⟨W, hW⟩ : ∃ W, w.alloc (.cells #[.string ⟨#[]⟩, .int .i64 0, .string ⟨#[]⟩, .int .i64 0, .int .i64 0, .int .i64 0, .int .i64 0, .string ⟨#[]⟩, .int .i64 0, .int .i64 0, .int .i64 0, .int .i64 0, .int .i64 0, .int .i64 0, .int .i64 0, .int .i64 0, .int .i64 0, .int .i64 0, .int .i64 0, .int .i64 0, .int .i64 0, .int .i64 0, .int .i64 0, .int .i64 0, .int .i64 0, .int .i64 0, .int .i64 0, .int .i64 0, .int .i64 0, .int .i64 0, .int .i64 0, .int .i64 0, .int .i64 0, .int .i64 0, .int .i64 0, .int .i64 0, .int .i64 0, .int .i64 0, .int .i64 0, .int .i64 0, .slice none 0 0, .bool false, .int .i64 0, .string ⟨#[]⟩, .int .i64 0, .pointer none, .bool false] 134) = W := ⟨_, rfl⟩
 rw [hW] at hb kq0 ⊢
 have kq : Blk W w.heap.size 134 (shc sh0 (none, 0, 0) none) := kq0
 clear hW kq0
 obtain ⟨q, hq⟩ : ∃ q, w.heap.size = q := ⟨_, rfl⟩
 rw [hq] at kq hb ⊢
 have hr := shop_table_range kq (s := sh0) lg0_8
 have lq := kq.lt
 go_wp2_with (first | (refine wpList_load_mid rfl _ (.tmp 10) rfl q 24 rfl (tc tb0) _ hr Try.underlying79 rfl (by rw [tc_len]; exact tabS_info) ?_))
 refine (Hh.out W).mono ?_
 rintro e w1 ⟨rfl, hb1⟩
 replace kq := kq.below hb1 lq
 replace hb := hb.trans (hb1.mono (by omega))
 clear hr lq hb1
 have lq := kq.lt
 go_wp2_with fail
 refine (Hdn.out w1).mono ?_
 rintro e w2 ⟨rfl, hb1⟩
 replace kq := kq.below hb1 lq
 replace hb := hb.trans (hb1.mono (by omega))
 clear lq hb1
 have lq := kq.lt
 go_wp2_with fail
 rw [Hcat.out]
 refine (Hp.out q w2 kq).mono ?_
 rintro e w3 ⟨rfl, kq3, ho⟩
 replace hb := hb.trans (ho.below (by omega) (fun k hk => by have hk : k = q := hk; omega))
 clear kq lq ho
 go_wp2_with fail
 refine (Hsn.out q w3 kq3).mono ?_
 rintro e w4 ⟨rfl, kq4, ho⟩
 replace hb := hb.trans (ho.below (by have := kq3.lt; omega) (fun k hk => by have hk : k = q := hk; omega))
 clear kq3 ho
 have ht := shop_log_there (s := { sh0 with d0 := (dN, (dN.size : Int)) }) kq4 lg0_8
 have lq := kq4.lt
 have h8N : Lg8 lgN := ⟨rfl, rfl⟩
 go_wp2_with (first | (refine wpList_built rfl _ _ rfl (lgc lgN (none, 0, 0)) built_logN ?_) | (refine wpList_store_mid rfl _ (.tmp 25) (.tmp 23) rfl q 5 (lgc lgN (none, 0, 0)) rfl rfl (by rw [lgc_size h8N]; exact ht) (by rw [lgc_size h8N]; exact log_info) lgc_ones ?_))
 go_ret
 have T1 := Blk.setMany (w := w4) (lgl lgN (none, 0, 0)) 5 w4 _ kq4
 rw [shc_setlog _ _ _ _ _ lg0_8 h8N] at T1
 refine ⟨q, rfl, by omega, T1, hq ▸ hb.trans ((Only.setMany q (lgl lgN (none, 0, 0)) 5 w4).below (by omega) (fun k hk => by have hk : k = q := hk; omega))⟩
def thE (l : Lg) (r : Int) : Int := if r < l.base then 9 else if l.base + l.revs.length < r then 8 else 0
theorem shc_ltext {s : Sh} {sl : Sl} {mp : Option Addr} (h8 : Lg8 s.log) : (shc s sl mp)[7]? = some (.string s.log.text) := (shc_log 2 (by decide) h8).trans lgc_text
theorem thE_zero {l : Lg} {r : Int} (h : thE l r = 0) : ∃ k : Nat, r = l.base + k ∧ k ≤ l.revs.length := by
 unfold thE at h
 split at h
 · omega
 · split at h
   · omega
   · exact ⟨(r - l.base).toNat, by omega, by omega⟩
theorem stext_none (q : Nat) (s : Sh) (sl : Sl) (mp : Option Addr) (r : Int) (w : World) (hk : Blk w q 134 (shc s sl mp)) (h8 : Lg8 s.log) (hsl : sl.2.1 = s.log.revs.length) (hb0 : 0 ≤ s.log.base) (hb1 : s.log.base ≤ 2147483647) (hr : s.log.revs.length ≤ 1000) (he : thE s.log r ≠ 0) :
 Calls Try.prog 47 #[.pointer (some ⟨q, 0, none⟩), .int .i64 r] w fun e w' => e = .returned (.tuple #[.string ⟨#[]⟩, .int .i64 (thE s.log r)]) ∧ Below w.heap.size w w' := by
 have hc : Calls Try.prog 88 #[.pointer (some ⟨q, 0, none⟩), .int .i64 r] w fun e w' => e = .returned (.int .i64 (thE s.log r)) ∧ Below w.heap.size w w' := there_any q s sl mp r w hk h8 hsl hb0 hb1 hr
 obtain ⟨E, hE⟩ : ∃ E, thE s.log r = E := ⟨_, rfl⟩
 rw [hE] at hc he ⊢
 have hEn : (E != 0) = true := by simpa using he
 have Hc := Lib.hid hc
 clear hc hE he hk h8 hsl hb0 hb1 hr
 go_enter Try.func47, Try.ntmps47
 go_wp2_with fail
 refine Hc.out.mono ?_
 rintro e w1 ⟨rfl, hb⟩
 go_wp2_with fail
 go_ret2
 exact ⟨rfl, hb⟩
theorem stext_good (q : Nat) (s : Sh) (sl : Sl) (mp : Option Addr) (r : Int) (k : Nat) (w : World) (hk : Blk w q 134 (shc s sl mp)) (h8 : Lg8 s.log) (hsl : sl.2.1 = s.log.revs.length) (hb0 : 0 ≤ s.log.base) (hb1 : s.log.base ≤ 2147483647) (hr : s.log.revs.length ≤ 1000) (hrk : r = s.log.base + k) (hkl : k ≤ s.log.revs.length)
 (hv : RdR w w.heap.size sl.1 sl.2.1 sl.2.2 s.log.revs) (htx : txE s.log.text s.log.revs = 0) :
 Calls Try.prog 47 #[.pointer (some ⟨q, 0, none⟩), .int .i64 r] w fun e w' => e = .returned (.tuple #[.string (txt s.log.text s.log.revs k), .int .i64 0]) ∧ Below w.heap.size w w' := by
 have hc := there_any q s sl mp r w hk h8 hsl hb0 hb1 hr
 rw [if_neg (by omega), if_neg (by omega)] at hc
 have hrt := fun w' (h : RdR w' w.heap.size sl.1 sl.2.1 sl.2.2 s.log.revs) (hw : w.heap.size ≤ w'.heap.size) => rtext_good s.log.text s.log.revs sl.1 sl.2.1 sl.2.2 w.heap.size k w' h hw htx hkl
 obtain ⟨A, n, c⟩ := sl
 simp only at hsl hv hrt
 obtain ⟨Ba, hBa⟩ : ∃ Ba, s.log.base = Ba := ⟨_, rfl⟩
 have c6 : (shc s (A, n, c) mp)[6]? = some (.int .i64 Ba) := by rw [← hBa]; exact shc_base h8
 rw [hBa] at hrk hb0 hb1
 obtain ⟨tx, htxe⟩ : ∃ tx, s.log.text = tx := ⟨_, rfl⟩
 have c7 : (shc s (A, n, c) mp)[7]? = some (.string tx) := by rw [← htxe]; exact shc_ltext h8
 have c40 : (shc s (A, n, c) mp)[40]? = some (.slice A n c) := shc_revs h8
 obtain ⟨R, hR⟩ : ∃ R, txt s.log.text s.log.revs k = R := ⟨_, rfl⟩
 rw [hR] at hrt ⊢
 rw [htxe] at hrt
 have hw : IntKind.i64.wrap (r - Ba) = (k : Int) := by rw [hrk, show Ba + (k : Int) - Ba = k by omega]; exact IntWalk.i64_in _ (by omega)
 have Hc := Lib.hid hc
 have Hrt := Lib.hid hrt
 have Hv := Lib.hid hv
 have lq := hk.lt
 clear hc hrt hv htx hkl hR htxe hBa hrk hr hb0 hb1 hsl h8
 go_enter Try.func47, Try.ntmps47
 go_wp2_with fail
 refine Hc.out.mono ?_
 rintro e w1 ⟨rfl, hb⟩
 have k1 := hk.below hb lq
 have Hv1 := Lib.hid (Hv.out.below hb)
 have d6 := k1.cell 6
 have d7 := k1.cell 7
 have d40 := k1.cell 40
 rw [c6] at d6
 rw [c7] at d7
 rw [c40] at d40
 have l1 := k1.lt
 have hs1 := hb.size
 have Hb := Lib.hid hb
 clear k1 hb c6 c7 c40 hk lq Hc Hv
 go_upto_region 4 with (fail)
 have KeepS := Lib.hid (fun (w' : World) (h : Below w1.heap.size w1 w') => (⟨h, by rw [h.cell l1]; exact d7, by rw [h.cell l1]; exact d40, by rw [h.cell l1]; exact d6, Nat.lt_of_lt_of_le l1 h.size⟩ : Below w1.heap.size w1 w' ∧ w'.cell? ⟨q, 7, none⟩ = some (.string tx) ∧ w'.cell? ⟨q, 40, none⟩ = some (.slice A n c) ∧ w'.cell? ⟨q, 6, none⟩ = some (.int .i64 Ba) ∧ q < w'.heap.size))
 have G := Lib.hid (fun (w' : World) (h : Below w1.heap.size w1 w' ∧ w'.cell? ⟨q, 7, none⟩ = some (.string tx) ∧ w'.cell? ⟨q, 40, none⟩ = some (.slice A n c) ∧ w'.cell? ⟨q, 6, none⟩ = some (.int .i64 Ba) ∧ q < w'.heap.size) => (Hrt.out w' (Hv1.out.below (h.1.mono hs1)) (by have := h.1.size; omega)).mono (R' := fun e w'' => e = .returned (.tuple #[.string R, .int .i64 0]) ∧ (Below w1.heap.size w1 w'' ∧ w''.cell? ⟨q, 7, none⟩ = some (.string tx) ∧ w''.cell? ⟨q, 40, none⟩ = some (.slice A n c) ∧ w''.cell? ⟨q, 6, none⟩ = some (.int .i64 Ba) ∧ q < w''.heap.size)) (fun e w'' hh => ⟨hh.1, KeepS.out _ (h.1.trans (hh.2.mono h.1.size))⟩))
 have hS7 := KeepS.out w1 (Below.refl _ _)
 clear d6 d7 d40 l1
 go_region_held3 (fun w' => Below w1.heap.size w1 w' ∧ w'.cell? ⟨q, 7, none⟩ = some (.string tx) ∧ w'.cell? ⟨q, 40, none⟩ = some (.slice A n c) ∧ w'.cell? ⟨q, 6, none⟩ = some (.int .i64 Ba) ∧ q < w'.heap.size) (first | with_reducible assumption | exact KeepS.out _ (Below.drew (Below.refl _ _)) | exact KeepS.out _ (by assumption) | exact KeepS.out _ (Below.drew (by assumption)) | (go_split_ands; exact KeepS.out _ (by assumption)))
  ((go_at_call 17; with_reducible refine (G.out _ (by assumption)).mono ?_; rintro e w9 ⟨rfl, hS9⟩))
 go_wp2_with fail
 have hS9q : Below w1.heap.size w1 w9 ∧ w9.cell? ⟨q, 7, none⟩ = some (.string tx) ∧ w9.cell? ⟨q, 40, none⟩ = some (.slice A n c) ∧ w9.cell? ⟨q, 6, none⟩ = some (.int .i64 Ba) ∧ q < w9.heap.size := by assumption
 go_ret2
 exact ⟨rfl, Hb.out.trans (hS9q.1.mono hs1)⟩
theorem wpOp_value {ops : Array Oper} {i : Nat} (t : Nat) {o : Oper} {a : Act} {w : World} {K : Act → World → Prop} {Q : Exit → Act → World → Prop} (hi : ops[i]? = some o) (hw : Region.wanted o (yielded ops a.tmps) = true) (hd : o.dst = some t) (v : Value)
 (hx : (execOp a.eval o).run Try.prog w = .ok (.value v) w) (h : K (a.put (some t) v) w) : wpOp Try.prog ops Q i K a w := by
 unfold wpOp
 simp only [hi, hw, if_true]
 refine .inl ?_
 unfold Oper.wp
 rw [hx]
 simp only [Oper.upon]
 rw [hd]
 exact h
theorem wpOp_at {ops : Array Oper} {i : Nat} {o : Oper} {a : Act} {w : World} {K : Act → World → Prop} {Q : Exit → Act → World → Prop} (hi : ops[i]? = some o) (hw : Region.wanted o (yielded ops a.tmps) = true) (h : o.wp Try.prog a w K Q) : wpOp Try.prog ops Q i K a w := by
 unfold wpOp
 simp only [hi, hw, if_true]
 exact .inl h
theorem shop_log_range {w : World} {q : Nat} {s : Sh} {sl : Sl} {mp : Option Addr} (h : Blk w q 134 (shc s sl mp)) (h8 : Lg8 s.log) : w.rangeAt q 5 (lgl s.log sl) := h.range fun j v hj => by
 have hjl : j < 38 := by have := (List.getElem?_eq_some_iff.1 hj).1; rw [lgl_len h8] at this; exact this
 rw [shc_log j hjl h8, lgc_at]; exact hj
theorem log_info_lgl {l : Lg} {s : Sl} (h8 : Lg8 l) : (Try.prog.info? 131).map (·.size) = some (lgl l s).length := by rw [lgl_len h8]; exact log_info
theorem sadd_no (q : Nat) (s : Sh) (sl : Sl) (mp : Option Addr) (a b : Int) (d : List Pt) (A : Option Addr) (n c : Nat) (w : World) (hk : Blk w q 134 (shc s sl mp)) (h8 : Lg8 s.log) (hsl : sl.2.1 = s.log.revs.length) (hb0 : 0 ≤ s.log.base) (hb1 : s.log.base ≤ 2147483647) (hr : s.log.revs.length ≤ 1000) (hd : RdP w w.heap.size A n c d) (E : Int) (he : nextE s.log s.text.size (a, b, d) = E) (hE : E ≠ 0) :
 Calls Try.prog 42 #[.pointer (some ⟨q, 0, none⟩), .agg #[.int .i64 a, .int .i64 b, .slice A n c]] w fun e w' => e = .returned (.tuple #[.int .i64 0, .int .i64 E]) ∧ Below w.heap.size w w' := by
 have kq := hk.alloc (.cells #[.int .i64 a, .int .i64 b, .slice A n c] 30)
 have kr := Blk.new w 30 #[.int .i64 a, .int .i64 b, .slice A n c]
 have hb := (Below.refl w.heap.size w).alloc (Nat.le_refl _) (.cells #[.int .i64 a, .int .i64 b, .slice A n c] 30)
 have Hd := Lib.hid (hd.stepA (.cells #[.int .i64 a, .int .i64 b, .slice A n c] 30))
 have hqw := hk.lt
 clear hd hk
 go_enter Try.func42, Try.ntmps42
 go_upto_region 1 with (fail)
 obtain ⟨W, hW⟩ : ∃ W, w.alloc (.cells #[.int .i64 a, .int .i64 b, .slice A n c] 30) = W := ⟨_, rfl⟩
 rw [hW] at kq kr hb Hd ⊢
 clear hW
 obtain ⟨g, hg⟩ : ∃ g, w.heap.size = g := ⟨_, rfl⟩
 rw [hg] at kr hb hqw ⊢
 obtain ⟨TX, hTX⟩ : ∃ TX, s.text = TX := ⟨_, rfl⟩
 have c43 : (shc s sl mp)[43]? = some (.string TX) := by rw [← hTX]; exact shc_text h8
 refine wp_region_held (S := fun w' => Blk w' q 134 (shc s sl mp) ∧ Blk w' g 30 #[.int .i64 a, .int .i64 b, .slice A n c] ∧ w'.cell? ⟨q, 43, none⟩ = some (.string TX)) (by kernel_rfl) ?_
 have hS : Blk W.drew q 134 (shc s sl mp) ∧ Blk W.drew g 30 #[.int .i64 a, .int .i64 b, .slice A n c] ∧ W.drew.cell? ⟨q, 43, none⟩ = some (.string TX) := ⟨kq.drew, kr.drew, (kq.drew.cell 43).trans c43⟩
 change wpAnyH _ _ _ _ _ _ _ _ W.drew
 refine tkZ 9 0 rfl rfl (.pointer (some ⟨q, 0, none⟩)) (.inl ⟨rfl, fun w' h' => by go_simp⟩) hS ?_
 simp only [Act.put, zA, zB, zC]
 refine tkZ 10 1 rfl rfl (.pointer (some ⟨q, 0, none⟩)) (.inl ⟨rfl, fun w' h' => by go_simp⟩) hS ?_
 simp only [Act.put, zA, zB, zC]
 refine tkZ 11 2 rfl rfl (.pointer (some ⟨q, 5, none⟩)) (.inl ⟨rfl, fun w' h' => by go_simp⟩) hS ?_
 simp only [Act.put, zA, zB, zC]
 refine tkZ 12 3 rfl rfl (.agg (lgl s.log sl).toArray) (yieldsIf_load_mid rfl _ (.tmp 11) rfl q 5 rfl (lgl s.log sl) _ (fun w' h' => shop_log_range h'.1 h8) Try.underlying131 rfl (log_info_lgl h8)) hS ?_
 simp only [Act.put, zA, zB, zC]
 refine tkZ 13 4 rfl rfl (.pointer (some ⟨q, 0, none⟩)) (.inl ⟨rfl, fun w' h' => by go_simp⟩) hS ?_
 simp only [Act.put, zA, zB, zC]
 refine tkZ 14 5 rfl rfl (.pointer (some ⟨q, 0, none⟩)) (.inl ⟨rfl, fun w' h' => by go_simp⟩) hS ?_
 simp only [Act.put, zA, zB, zC]
 refine tkZ 15 6 rfl rfl (.pointer (some ⟨q, 43, none⟩)) (.inl ⟨rfl, fun w' h' => by go_simp⟩) hS ?_
 simp only [Act.put, zA, zB, zC]
 refine tkZ 16 7 rfl rfl (.string TX) (.inl ⟨rfl, fun w' h' => by obtain ⟨-, -, h1⟩ := h'; go_simp⟩) hS ?_
 simp only [Act.put, zA, zB, zC]
 refine tkZ 17 8 rfl rfl (.int .i64 TX.size) (.inl ⟨rfl, fun w' h' => by go_simp⟩) hS ?_
 simp only [Act.put, zA, zB, zC]
 refine tkZ 18 9 rfl rfl (.agg #[.int .i64 a, .int .i64 b, .slice A n c]) (.inl ⟨rfl, fun w' h' => exec_load_blk _ _ rfl g rfl _ (rev_row h'.2.1 rfl)⟩) hS ?_
 simp only [Act.put, zA, zB, zC]
 have hnx := next_any s.log sl h8 hsl hb0 hb1 hr TX.size (a, b, d) A n c W.drew (Hd.out.step (Below.drew (Below.refl _ _)))
 rw [hTX] at he
 rw [he] at hnx
 refine wpAnyH_all (rs := [10]) (by kernel_rfl) (List.cons_ne_nil _ _) (fun i10 hi10 => ?_)
 obtain rfl := List.mem_singleton.1 hi10
 refine wpOp_enter 19 rfl rfl rfl 85 #[.agg (lgc s.log sl), .int .i64 TX.size, .agg #[.int .i64 a, .int .i64 b, .slice A n c]] (by go_simp; rfl) (.int .i64 E) (fun w' => Below W.drew.heap.size W.drew w') hnx ?_
 intro wo hvo
 simp only [Act.put, zA, zB, zC]
 have hvo2 : Below W.heap.size W wo := ⟨hvo.os, hvo.tape, hvo.output, hvo.size, hvo.block⟩
 clear hvo hS hnx
 have lq := kq.lt
 have lr := kr.lt
 replace kq := kq.below hvo2 lq
 replace kr := kr.below hvo2 lr
 replace hb := hb.trans (hvo2.mono (by omega))
 replace Hd := Lib.hid (Hd.out.step hvo2)
 clear lq lr hvo2
 have hS : Blk wo q 134 (shc s sl mp) ∧ Blk wo g 30 #[.int .i64 a, .int .i64 b, .slice A n c] ∧ wo.cell? ⟨q, 43, none⟩ = some (.string TX) := ⟨kq, kr, (kq.cell 43).trans c43⟩
 refine ⟨hS, ?_⟩
 refine tkZ 6 11 rfl rfl (.int .i64 E) (.inl ⟨rfl, fun w' h' => by go_simp⟩) hS ?_
 simp only [Act.put, zA, zB, zC]
 refine wpAnyH_done (by kernel_rfl) ?_ _
 clear hS
 have hEn : (E != 0) = true := by simpa using hE
 clear kq kr c43
 go_wp2_with fail
 go_ret2
 exact ⟨rfl, hg ▸ hb⟩
def addS (s : Sh) (r : Rv) : Sh := { s with d0 := (dapp s.d0 s.d1 s.at_ (frB r)).1, d1 := (dapp s.d0 s.d1 s.at_ (frB r)).2.1, text := doS r.2.2 s.text, log := addL s.log r }
theorem shc_settext (s : Sh) (sl : Sl) (mp : Option Addr) (t : ByteArray) (h8 : Lg8 s.log) : (shc s sl mp).setIfInBounds 43 (.string t) = shc { s with text := t } sl mp := by
 unfold shc lgin
 rw [List.setIfInBounds_toArray]
 rw [List.set_append_right _ _ (by simp [shP]), List.set_append_right _ _ (by rw [lgl_len h8]; simp [shP])]
 have e : 43 - (shP s).length - (lgl s.log sl).length = 0 := by rw [lgl_len h8]; rfl
 rw [e]
 rfl
end Go.Proofs.Ytokngfinnieccaa
