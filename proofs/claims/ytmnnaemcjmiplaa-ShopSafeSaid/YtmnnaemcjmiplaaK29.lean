/- Contracts of shop.Step, case by case, and of shop.Sync, shop.Last, shop.Safe. -/
import Derived.Test.YtmnnaemcjmiplaaK28
namespace Go.Proofs.Ytmnnaemcjmiplaa
open Go.ChangeShapes Go.WideShapes Go.RowKit
set_option linter.unusedVariables false
set_option linter.unusedSimpArgs false
set_option maxRecDepth 100000
set_option maxHeartbeats 4000000

/-- an archive's block and its history -/
structure ShR (w : World) (q : Nat) (s : Sh) (sl : Sl) (ss : List Sl) (mp : Option Addr) : Prop where
  k : Blk w q 108 (shc s sl mp)
  v : OwnV w 0 (.slice sl.1 sl.2.1 sl.2.2) ss s.log.revs
theorem ShR.below {w w' : World} {q : Nat} {s : Sh} {sl : Sl} {ss : List Sl} {mp : Option Addr} (h : ShR w q s sl ss mp) (hb : Below w.heap.size w w') : ShR w' q s sl ss mp := ⟨h.k.below hb h.k.lt, h.v.below hb⟩
theorem ShR.box {w w' : World} {q : Nat} {s s' : Sh} {sl : Sl} {ss : List Sl} {mp mp' : Option Addr} (h : ShR w q s sl ss mp) (ho : Only w w' (fun k => k = q)) (hk : Blk w' q 108 (shc s' sl mp')) (e : s'.log.revs = s.log.revs) : ShR w' q s' sl ss mp' :=
  ⟨hk, by rw [e]; exact h.v.box h.k (by decide) (by decide) ho⟩
theorem ShR.far {w w' : World} {q g : Nat} {s : Sh} {sl : Sl} {ss : List Sl} {mp : Option Addr} {cs : Array Value} (h : ShR w q s sl ss mp) (hg : Blk w g 116 cs) (ho : Only w w' (fun k => k = g)) : ShR w' q s sl ss mp :=
  ⟨h.k.only ho (Blk.ne_ h.k hg (by decide)), h.v.box hg (by decide) (by decide) ho⟩
theorem ShR.len {w : World} {q : Nat} {s : Sh} {sl : Sl} {ss : List Sl} {mp : Option Addr} (h : ShR w q s sl ss mp) : sl.2.1 = s.log.revs.length := by obtain ⟨A9, c9, e9⟩ := h.v.form; injection e9
def trimSh (s : Sh) (i n : Int) : Sh := { s with d0 := (dtrm s.d0 s.d1 i n).1, d1 := (dtrm s.d0 s.d1 i n).2 }
def syncSh (s : Sh) (i : Int) : Sh := { s with d0 := (dsyn s.d0 s.d1 i).1, d1 := (dsyn s.d0 s.d1 i).2 }
theorem shc_set4 (s : Sh) (sl : Sl) (mp : Option Addr) (n : Nat) : (shc s sl mp).setIfInBounds 4 (.int .i64 n) = shc { s with at_ := n } sl mp := by
  unfold shc lgin
  rw [List.setIfInBounds_toArray]
  rfl
theorem shc_set44 (s : Sh) (sl : Sl) (mp : Option Addr) (n : Int) (h8 : Lg8 s.log) : (shc s sl mp).setIfInBounds 44 (.int .i64 n) = shc { s with safe := n } sl mp := by
  unfold shc lgin
  rw [List.setIfInBounds_toArray]
  rw [List.set_append_right _ _ (by simp [shP]), List.set_append_right _ _ (by rw [lgl_len h8]; simp [shP])]
  have e : 44 - (shP s).length - (lgl s.log sl).length = 1 := by rw [lgl_len h8]; rfl
  rw [e]
  rfl
theorem shc_set46 (s : Sh) (sl : Sl) (mp : Option Addr) (b : Bool) (h8 : Lg8 s.log) : (shc s sl mp).setIfInBounds 46 (.bool b) = shc { s with old := b } sl mp := by
  unfold shc lgin
  rw [List.setIfInBounds_toArray]
  rw [List.set_append_right _ _ (by simp [shP]), List.set_append_right _ _ (by rw [lgl_len h8]; simp [shP])]
  have e : 46 - (shP s).length - (lgl s.log sl).length = 3 := by rw [lgl_len h8]; rfl
  rw [e]
  rfl
theorem sstep_none (q : Nat) (s : Sh) (sl : Sl) (ss : List Sl)  (w : World) (h : ShR w q s sl ss none) (h8 : Lg8 s.log) (hat : s.at_ ≤ 1) (ho : s.old = false) :
    Calls Try.prog 26 #[.pointer (some ⟨q, 0, none⟩)] w fun e w' => e = .returned (.bool false) ∧ Below w.heap.size w w' := by
  obtain ⟨AT, hAT⟩ : ∃ AT, s.at_ = AT := ⟨_, rfl⟩
  obtain ⟨OA, hOA⟩ : ∃ OA : Nat, 1 - AT = OA := ⟨_, rfl⟩
  rw [hAT] at hat
  have hwr : IntKind.i64.wrap (1 - (AT : Int)) = (OA : Int) := by rw [show 1 - (AT : Int) = (OA : Int) by omega]; exact IntWalk.i64_in _ (by omega)
  have HAT := Lib.hid hAT
  have HOA := Lib.hid hOA
  clear hAT hOA hat
  have c4 : w.cell? ⟨q, 4, none⟩ = some (.int .i64 (AT : Int)) := (h.k.cell 4).trans (shc_at.trans (by rw [← HAT.out]))
  have c45 : w.cell? ⟨q, 45, none⟩ = some (.pointer none) := (h.k.cell 45).trans (shc_mv h8)
  have c46 : w.cell? ⟨q, 46, none⟩ = some (.bool false) := (h.k.cell 46).trans ((shc_old h8).trans (by rw [ho]))
  have lq := h.k.lt
  clear h ho h8
  go_enter Try.func26, Try.ntmps26
  go_wp2_with fail
  go_ret
  exact ⟨rfl, Below.refl _ _⟩
theorem sstep_old (q : Nat) (s : Sh) (sl : Sl) (ss : List Sl)  (w : World) (h : ShR w q s sl ss none) (h8 : Lg8 s.log) (hat : s.at_ ≤ 1) (ho : s.old = true) (hl : dlook s.d0 s.d1 ((1 - s.at_ : Nat) : Int) = 0) :
    Calls Try.prog 26 #[.pointer (some ⟨q, 0, none⟩)] w fun e w' => e = .returned (.bool true) ∧ ShR w' q { trimSh s ((1 - s.at_ : Nat) : Int) 0 with old := false } sl ss none ∧ Only w w' (fun k => k = q) := by
  obtain ⟨AT, hAT⟩ : ∃ AT, s.at_ = AT := ⟨_, rfl⟩
  obtain ⟨OA, hOA⟩ : ∃ OA : Nat, 1 - AT = OA := ⟨_, rfl⟩
  rw [hAT] at hat
  have hwr : IntKind.i64.wrap (1 - (AT : Int)) = (OA : Int) := by rw [show 1 - (AT : Int) = (OA : Int) by omega]; exact IntWalk.i64_in _ (by omega)
  have HAT := Lib.hid hAT
  have HOA := Lib.hid hOA
  clear hAT hOA hat
  rw [HAT.out, HOA.out] at hl ⊢
  have hc : Calls Try.prog 72 #[.pointer (some ⟨q, 0, none⟩), .int .i64 (OA : Int), .int .i64 0] w fun e w' => e = .returned (.tuple #[]) ∧ Blk w' q 108 (shc (trimSh s OA 0) sl none) ∧ Only w w' (fun k => k = q) := strim_any q s sl none OA 0 w h.k hl (by omega)
  have Hc := Lib.hid hc
  clear hc
  have c4 : w.cell? ⟨q, 4, none⟩ = some (.int .i64 (AT : Int)) := (h.k.cell 4).trans (shc_at.trans (by rw [← HAT.out]))
  have c45 : w.cell? ⟨q, 45, none⟩ = some (.pointer none) := (h.k.cell 45).trans (shc_mv h8)
  have c46 : w.cell? ⟨q, 46, none⟩ = some (.bool true) := (h.k.cell 46).trans ((shc_old h8).trans (by rw [ho]))
  have lq := h.k.lt
  have H := Lib.hid h
  clear h ho
  go_enter Try.func26, Try.ntmps26
  go_wp2_with fail
  refine Hc.out.mono ?_
  rintro e w1 ⟨rfl, k1, o1⟩
  have h1 := H.out.box o1 k1 rfl
  clear c4 c45 c46 lq Hc H
  have f46 := k1.frozen 46
  have c46 : w1.cell? ⟨q, 46, none⟩ = some (.bool (trimSh s OA 0).old) := (k1.cell 46).trans (shc_old (s := trimSh s OA 0) h8)
  have lq := k1.lt
  go_wp2_with fail
  go_ret
  have k2 := k1.set_ 46 (.bool false)
  rw [shc_set46 (trimSh s OA 0) sl none false h8] at k2
  exact ⟨rfl, h1.box (Only.setSelf _ q 46 _) k2 rfl, o1.trans (Only.setSelf _ q 46 _)⟩
theorem sstep_head (q : Nat) (s : Sh) (sl : Sl) (ss : List Sl) (g fl : Nat) (cp : Int) (wh : Bool) (k gN : Nat) (tN : List (Nat × Nat)) (w : World) (h : ShR w q s sl ss (some ⟨g, 0, none⟩)) (hm : Blk w g 116 #[.int .i64 fl, .int .i64 cp, .bool wh]) (h8 : Lg8 s.log) (hat : s.at_ ≤ 1) (hcp : cp < 0) (hfl : (fl : Int) = s.log.base + k) (hkl : k ≤ s.log.revs.length) (hgn : s.log.gen = gN) (hg1 : gN ≤ 2147483646) (hb0 : 0 ≤ s.log.base) (hb1 : s.log.base ≤ 2147483647) (hf1 : fl ≤ 2147483647) (hr : s.log.revs.length ≤ 64) (htx : txE s.log.text s.log.revs = 0)
    (htN : tblF s.log.base s.log.first (s.log.revs.take k) = tbN tN) (hp : ∀ p ∈ tN, p.1 ≤ 2147483647 ∧ p.2 ≤ 2147483647) (hl : dlook s.d0 s.d1 ((1 - s.at_ : Nat) : Int) = 0) (hl2 : dlook (trimSh s ((1 - s.at_ : Nat) : Int) 0).d0 (trimSh s ((1 - s.at_ : Nat) : Int) 0).d1 ((1 - s.at_ : Nat) : Int) = 0) :
    Calls Try.prog 26 #[.pointer (some ⟨q, 0, none⟩)] w fun e w' => e = .returned (.bool true) ∧ ShR w' q (putS (trimSh s ((1 - s.at_ : Nat) : Int) 0) ((1 - s.at_ : Nat) : Int) (hdB (gN + 1) fl tN (txt s.log.text s.log.revs k))) sl ss (some ⟨g, 0, none⟩) ∧ Blk w' g 116 #[.int .i64 fl, .int .i64 0, .bool wh] ∧ Only w w' (fun k => k = q ∨ k = g) := by
  obtain ⟨AT, hAT⟩ : ∃ AT, s.at_ = AT := ⟨_, rfl⟩
  obtain ⟨OA, hOA⟩ : ∃ OA : Nat, 1 - AT = OA := ⟨_, rfl⟩
  rw [hAT] at hat
  have hwr : IntKind.i64.wrap (1 - (AT : Int)) = (OA : Int) := by rw [show 1 - (AT : Int) = (OA : Int) by omega]; exact IntWalk.i64_in _ (by omega)
  have HAT := Lib.hid hAT
  have HOA := Lib.hid hOA
  clear hAT hOA hat
  rw [HAT.out, HOA.out] at hl hl2 ⊢
  have hbase : txt s.log.text s.log.revs k = txt s.log.text s.log.revs k := rfl
  obtain ⟨TX, hTX⟩ : ∃ TX, txt s.log.text s.log.revs k = TX := ⟨_, rfl⟩
  have hx5 : TX.size ≤ 500 := by rw [← hTX]; exact txt_size _ _ _ (txE_parts htx).1
  have htl : tN.length = 8 := by
    have := congrArg List.length htN
    rw [tblF_len, h8.1] at this
    simpa [tbN] using this.symm
  have hone : ∀ r ∈ s.log.revs, 0 ≤ r.1 ∧ r.1 ≤ 7 := fun r hr => by
    have := one_parts (txr_parts _ _ (txE_parts htx).2.2 r hr)
    exact ⟨this.1, this.2.1⟩
  have hc1 := stext_good q s sl (some ⟨g, 0, none⟩) fl k w h.k h8 h.len hb0 hb1 (by omega) hfl hkl h.v.rd htx
  rw [hTX] at hc1 ⊢
  obtain ⟨TA, hTA⟩ : ∃ TA, (tc (tbN tN)).toArray = TA := ⟨_, rfl⟩
  have hc2 : Hid (∀ w', Below w.heap.size w w' → Calls Try.prog 73 #[.pointer (some ⟨q, 0, none⟩), .int .i64 fl] w' fun e w'' => e = .returned (.agg TA) ∧ Below w'.heap.size w' w'') := Lib.hid fun w' hb => by
    have h' := h.below hb
    have := stable_any q s sl (some ⟨g, 0, none⟩) fl k w' h'.k h8 h'.len hb0 hb1 (by omega) hfl hkl h'.v.rd hone
    rw [htN, hTA] at this
    exact this
  obtain ⟨G1, hG1⟩ : ∃ G1 : Nat, gN + 1 = G1 := ⟨_, rfl⟩
  obtain ⟨HB, hHB⟩ : ∃ HB, hdB G1 fl tN TX = HB := ⟨_, rfl⟩
  have hc3 : Hid (∀ w', Calls Try.prog 64 #[.int .i64 (G1 : Int), .int .i64 fl, .string TX, .agg TA] w' fun e w'' => e = .returned (.tuple #[.string HB, .int .i64 0]) ∧ Below w'.heap.size w' w'') := Lib.hid fun w' => by
    have := hhead_good G1 fl tN TX htl (by omega) hf1 hp w' hx5
    rw [hTA, hHB] at this
    exact this
  have hhs : HB.size ≤ 140737488351232 := by
    rw [← hHB]
    have h1 : (hdB G1 fl tN TX).data.toList.length = (hdB G1 fl tN TX).size := rfl
    rw [hdB_tx, txF_len] at h1
    have h2 := headB_len G1 fl tN TX htl (by omega) hf1 hp
    have h3 : (hf G1 fl tN TX).2.size = (headB ((G1, fl) :: tN) TX).length := by unfold hf; exact List.size_toArray
    omega
  have hwg : IntKind.i64.wrap ((gN : Int) + 1) = (G1 : Int) := by rw [show (gN : Int) + 1 = (G1 : Int) by omega]; exact IntWalk.i64_in _ (by omega)
  have hdc : decide (cp < 0) = true := decide_eq_true hcp
  rw [hG1, hHB]
  have Hc1 := Lib.hid hc1
  have Hl := Lib.hid hl
  have Hl2 := Lib.hid hl2
  have Hgn := Lib.hid hgn
  have Hhs := Lib.hid hhs
  have c4 : w.cell? ⟨q, 4, none⟩ = some (.int .i64 (AT : Int)) := (h.k.cell 4).trans (shc_at.trans (by rw [← HAT.out]))
  have c45 : w.cell? ⟨q, 45, none⟩ = some (.pointer (some ⟨g, 0, none⟩)) := (h.k.cell 45).trans (shc_mv h8)
  have lq := h.k.lt
  have m0 : w.cell? ⟨g, 0, none⟩ = some (.int .i64 fl) := hm.cell 0
  have m1 : w.cell? ⟨g, 1, none⟩ = some (.int .i64 cp) := hm.cell 1
  have m2 : w.cell? ⟨g, 2, none⟩ = some (.bool wh) := hm.cell 2
  have lg := hm.lt
  have H := Lib.hid h
  have Hm := Lib.hid hm
  clear hc1 hTX hTA hG1 hHB hbase hone htl hx5 htx htN hp hl hl2 hfl hkl hb0 hb1 hr hgn hhs hf1 hg1 h hm hcp
  go_enter Try.func26, Try.ntmps26
  go_wp2_with fail
  refine Hc1.out.mono ?_
  rintro e w1 ⟨rfl, hb⟩
  have h1 := H.out.below hb
  have km1 := Hm.out.below hb Hm.out.lt
  have o1 := Only.of_below (S := fun k => k = q ∨ k = g) hb
  have Hb1 := Lib.hid hb
  clear c4 c45 lq m0 m1 m2 lg Hc1 hb
  have c5 : w1.cell? ⟨q, 5, none⟩ = some (.int .i64 (gN : Int)) := (h1.k.cell 5).trans (((shc_log 0 (by decide) h8).trans lgc_gen).trans (by rw [Hgn.out]))
  have lq := h1.k.lt
  have m0 : w1.cell? ⟨g, 0, none⟩ = some (.int .i64 fl) := km1.cell 0
  have lg := km1.lt
  have H1 := Lib.hid h1
  have Km1 := Lib.hid km1
  clear h1 km1
  go_upto_region 14 with (fail)
  have KeepS := Lib.hid (fun (w' : World) (h : Below w1.heap.size w1 w') => (⟨h, by rw [h.cell lq]; exact c5, by rw [h.cell lg]; exact m0, Nat.lt_of_lt_of_le lq h.size, Nat.lt_of_lt_of_le lg h.size⟩ : Below w1.heap.size w1 w' ∧ w'.cell? ⟨q, 5, none⟩ = some (.int .i64 (gN : Int)) ∧ w'.cell? ⟨g, 0, none⟩ = some (.int .i64 fl) ∧ q < w'.heap.size ∧ g < w'.heap.size))
  have G1' := Lib.hid (fun (w' : World) (h : Below w1.heap.size w1 w' ∧ w'.cell? ⟨q, 5, none⟩ = some (.int .i64 (gN : Int)) ∧ w'.cell? ⟨g, 0, none⟩ = some (.int .i64 fl) ∧ q < w'.heap.size ∧ g < w'.heap.size) => (hc2.out w' (Hb1.out.trans (h.1.mono Hb1.out.size))).mono (R' := fun e w'' => e = .returned (.agg TA) ∧ (Below w1.heap.size w1 w'' ∧ w''.cell? ⟨q, 5, none⟩ = some (.int .i64 (gN : Int)) ∧ w''.cell? ⟨g, 0, none⟩ = some (.int .i64 fl) ∧ q < w''.heap.size ∧ g < w''.heap.size)) (fun e w'' hh => ⟨hh.1, KeepS.out _ (h.1.trans (hh.2.mono h.1.size))⟩))
  have G2' := Lib.hid (fun (w' : World) (h : Below w1.heap.size w1 w' ∧ w'.cell? ⟨q, 5, none⟩ = some (.int .i64 (gN : Int)) ∧ w'.cell? ⟨g, 0, none⟩ = some (.int .i64 fl) ∧ q < w'.heap.size ∧ g < w'.heap.size) => (hc3.out w').mono (R' := fun e w'' => e = .returned (.tuple #[.string HB, .int .i64 0]) ∧ (Below w1.heap.size w1 w'' ∧ w''.cell? ⟨q, 5, none⟩ = some (.int .i64 (gN : Int)) ∧ w''.cell? ⟨g, 0, none⟩ = some (.int .i64 fl) ∧ q < w''.heap.size ∧ g < w''.heap.size)) (fun e w'' hh => ⟨hh.1, KeepS.out _ (h.1.trans (hh.2.mono h.1.size))⟩))
  have hS7 := KeepS.out w1 (Below.refl _ _)
  clear c5 m0 lq lg
  go_region_held3 (fun w' => Below w1.heap.size w1 w' ∧ w'.cell? ⟨q, 5, none⟩ = some (.int .i64 (gN : Int)) ∧ w'.cell? ⟨g, 0, none⟩ = some (.int .i64 fl) ∧ q < w'.heap.size ∧ g < w'.heap.size) (first | with_reducible assumption | exact KeepS.out _ (Below.drew (Below.refl _ _)) | exact KeepS.out _ (by assumption) | exact KeepS.out _ (Below.drew (by assumption)) | (go_split_ands; exact KeepS.out _ (by assumption)))
    (first | (go_at_call 73; with_reducible refine (G1'.out _ (by assumption)).mono ?_; rintro e w8 ⟨rfl, hS8⟩) | (go_at_call 64; with_reducible refine (G2'.out _ (by assumption)).mono ?_; rintro e w9 ⟨rfl, hS9⟩))
  have hB9 := hS9.1
  have h9 := H1.out.below hB9
  have km9 := Km1.out.below hB9 Km1.out.lt
  have o9 := o1.trans (Only.of_below (S := fun k => k = q ∨ k = g) hB9)
  clear hS7 hS8 hS9 hB9 KeepS G1' G2' H1 Km1 o1 Hb1
  have hc : Calls Try.prog 72 #[.pointer (some ⟨q, 0, none⟩), .int .i64 (OA : Int), .int .i64 0] w9 fun e w' => e = .returned (.tuple #[]) ∧ Blk w' q 108 (shc (trimSh s OA 0) sl (some ⟨g, 0, none⟩)) ∧ Only w9 w' (fun k => k = q) := strim_any q s sl (some ⟨g, 0, none⟩) OA 0 w9 h9.k Hl.out (by omega)
  have Hc := Lib.hid hc
  have H9 := Lib.hid h9
  have Km9 := Lib.hid km9
  have O9 := Lib.hid o9
  clear hc h9 km9 o9
  go_wp2_with fail
  refine Hc.out.mono ?_
  rintro e w10 ⟨rfl, k10, o10⟩
  have h10 := H9.out.box o10 k10 rfl
  have km10 := Km9.out.only o10 (Blk.ne_ Km9.out H9.out.k (by decide))
  have oA := O9.out.trans (o10.mono fun k _ h => .inl h)
  have hc : Calls Try.prog 65 #[.pointer (some ⟨q, 0, none⟩), .int .i64 (OA : Int), .string HB] w10 fun e w' => e = .returned (.tuple #[]) ∧ Blk w' q 108 (shc (putS (trimSh s OA 0) OA HB) sl (some ⟨g, 0, none⟩)) ∧ Only w10 w' (fun k => k = q) := sput_any q (trimSh s OA 0) sl (some ⟨g, 0, none⟩) OA HB w10 k10 Hl2.out Hhs.out
  have Hc2 := Lib.hid hc
  have H10 := Lib.hid h10
  have Km10 := Lib.hid km10
  have OA10 := Lib.hid oA
  clear hc h10 km10 oA o10 k10 Hc H9 Km9 O9
  go_wp2_with fail
  refine Hc2.out.mono ?_
  rintro e w11 ⟨rfl, k11, o11⟩
  have h11 := H10.out.box o11 k11 rfl
  have km11 := Km10.out.only o11 (Blk.ne_ Km10.out H10.out.k (by decide))
  have oB := OA10.out.trans (o11.mono fun k _ h => .inl h)
  have f1 := km11.frozen 1
  have m1 := km11.cell 1
  have lg := km11.lt
  clear o11 Hc2 H10 Km10 OA10
  go_wp2_with fail
  go_ret
  exact ⟨rfl, h11.far km11 (Only.setSelf _ g 1 _), km11.set_ 1 (.int .i64 0), oB.trans ((Only.setSelf _ g 1 _).mono fun k _ h => .inr h)⟩
theorem sstep_copy (q : Nat) (s : Sh) (sl : Sl) (ss : List Sl) (g fl c : Nat) (kk : Nat) (ra rb : Int) (d : List Pt) (w : World) (h : ShR w q s sl ss (some ⟨g, 0, none⟩)) (hm : Blk w g 116 #[.int .i64 fl, .int .i64 c, .bool false]) (h8 : Lg8 s.log) (hat : s.at_ ≤ 1) (hkk : (fl : Int) + c = s.log.base + kk) (hkl : kk < s.log.revs.length) (hrk : s.log.revs[kk] = (ra, rb, d)) (hb0 : 0 ≤ s.log.base) (hb1 : s.log.base ≤ 2147483647) (hf1 : fl ≤ 2147483647) (hr : s.log.revs.length ≤ 64) (hc64 : c ≤ 64) (hone : oneE (ra, rb, d) = 0) (hl : dlook s.d0 s.d1 ((1 - s.at_ : Nat) : Int) = 0) :
    Calls Try.prog 26 #[.pointer (some ⟨q, 0, none⟩)] w fun e w' => e = .returned (.bool true) ∧ ShR w' q (putS s ((1 - s.at_ : Nat) : Int) (frB (ra, rb, d))) sl ss (some ⟨g, 0, none⟩) ∧ Blk w' g 116 #[.int .i64 fl, .int .i64 ((c + 1 : Nat) : Int), .bool false] ∧ Only w w' (fun k => k = q ∨ k = g) := by
  obtain ⟨AT, hAT⟩ : ∃ AT, s.at_ = AT := ⟨_, rfl⟩
  obtain ⟨OA, hOA⟩ : ∃ OA : Nat, 1 - AT = OA := ⟨_, rfl⟩
  rw [hAT] at hat
  have hwr : IntKind.i64.wrap (1 - (AT : Int)) = (OA : Int) := by rw [show 1 - (AT : Int) = (OA : Int) by omega]; exact IntWalk.i64_in _ (by omega)
  have HAT := Lib.hid hAT
  have HOA := Lib.hid hOA
  clear hAT hOA hat
  rw [HAT.out, HOA.out] at hl ⊢
  obtain ⟨A, n, cc⟩ := sl
  have hsl : n = s.log.revs.length := h.len
  have hrd := h.v.rd
  obtain ⟨b, o, A1, n1, c1, hA, hbl, d0, d1, d2, hrd1⟩ := hrd.at_ kk (by show kk < n; omega)
  simp only at hA hbl
  rw [hrk] at d0 d1 hrd1
  simp only at d0 d1 hrd1
  have hsh : ∀ w', Below w.heap.size w w' → Calls Try.prog 19 #[.pointer (some ⟨q, 0, none⟩)] w' fun e w'' => e = .returned (.int .i64 (s.log.base + s.log.revs.length)) ∧ Below w'.heap.size w' w'' := fun w' hb => by
    have h' := h.below hb
    exact shead_any q s (A, n, cc) (some ⟨g, 0, none⟩) w' h'.k h8 h'.len hb0 hb1 (by omega)
  obtain ⟨HD, hHD⟩ : ∃ HD, s.log.base + (s.log.revs.length : Int) = HD := ⟨_, rfl⟩
  rw [hHD] at hsh
  obtain ⟨Ba, hBa⟩ : ∃ Ba, s.log.base = Ba := ⟨_, rfl⟩
  have q6 : w.cell? ⟨q, 6, none⟩ = some (.int .i64 Ba) := (h.k.cell 6).trans ((shc_base h8).trans (by rw [hBa]))
  have q40 : w.cell? ⟨q, 40, none⟩ = some (.slice A n cc) := (h.k.cell 40).trans (shc_revs h8)
  rw [hBa] at hkk hb0 hb1 hHD
  obtain ⟨FC, hFC⟩ : ∃ FC : Int, (fl : Int) + (c : Int) = FC := ⟨_, rfl⟩
  have hw1 : IntKind.i64.wrap ((fl : Int) + (c : Int)) = FC := by rw [hFC]; exact IntWalk.i64_in _ (by omega)
  have hw2 : IntKind.i64.wrap (FC - Ba) = (kk : Int) := by rw [show FC - Ba = (kk : Int) by omega]; exact IntWalk.i64_in _ (by omega)
  have hw3 : IntKind.i64.wrap ((c : Int) + 1) = (c : Int) + 1 := IntWalk.i64_in _ (by omega)
  have hlt : decide (FC < HD) = true := decide_eq_true (by omega)
  have hdc : decide ((c : Int) < 0) = false := decide_eq_false (by omega)
  have hkn : (kk : Int) < (n : Int) := by omega
  have hk0 : (0 : Int) ≤ (kk : Int) := by omega
  subst hA
  obtain ⟨FB, hFB⟩ : ∃ FB, frB (ra, rb, d) = FB := ⟨_, rfl⟩
  have hFs : FB.size ≤ 140737488351232 := by have := frB_size hone; rw [hFB] at this; omega
  have hrv : ∀ w', Below w.heap.size w w' → Calls Try.prog 69 #[.agg #[.int .i64 ra, .int .i64 rb, .slice A1 n1 c1]] w' fun e w'' => e = .returned (.tuple #[.string FB, .int .i64 0]) ∧ Below w'.heap.size w' w'' := fun w' hb => by
    have := hrev_good ra rb d A1 n1 c1 w' (hrd1.step hb) hone
    rw [hFB] at this
    exact this
  rw [hFB]
  have Hsh := Lib.hid hsh
  have Hrv := Lib.hid hrv
  have Hl := Lib.hid hl
  have HFs := Lib.hid hFs
  have Hc1 := Lib.hid (show ((c + 1 : Nat) : Int) = (c : Int) + 1 by omega)
  have c4 : w.cell? ⟨q, 4, none⟩ = some (.int .i64 (AT : Int)) := (h.k.cell 4).trans (shc_at.trans (by rw [← HAT.out]))
  have c45 : w.cell? ⟨q, 45, none⟩ = some (.pointer (some ⟨g, 0, none⟩)) := (h.k.cell 45).trans (shc_mv h8)
  have lq := h.k.lt
  have m0 : w.cell? ⟨g, 0, none⟩ = some (.int .i64 fl) := hm.cell 0
  have m1 : w.cell? ⟨g, 1, none⟩ = some (.int .i64 (c : Int)) := hm.cell 1
  have m2 : w.cell? ⟨g, 2, none⟩ = some (.bool false) := hm.cell 2
  have lg := hm.lt
  have KeepS := Lib.hid (fun (w' : World) (h : Below w.heap.size w w') => (⟨h, by rw [h.cell lg]; exact m0, by rw [h.cell lg]; exact m1, by rw [h.cell lg]; exact m2, by rw [h.cell lq]; exact q6, by rw [h.cell lq]; exact q40, by rw [h.cell hbl]; exact d0, by rw [h.cell hbl]; exact d1, by rw [h.cell hbl]; exact d2, Nat.lt_of_lt_of_le lq h.size, Nat.lt_of_lt_of_le lg h.size, Nat.lt_of_lt_of_le hbl h.size⟩ : Below w.heap.size w w' ∧ w'.cell? ⟨g, 0, none⟩ = some (.int .i64 fl) ∧ w'.cell? ⟨g, 1, none⟩ = some (.int .i64 (c : Int)) ∧ w'.cell? ⟨g, 2, none⟩ = some (.bool false) ∧ w'.cell? ⟨q, 6, none⟩ = some (.int .i64 Ba) ∧ w'.cell? ⟨q, 40, none⟩ = some (.slice (some ⟨b, o, none⟩) n cc) ∧ w'.cell? ⟨b, o + kk * 3, none⟩ = some (.int .i64 ra) ∧ w'.cell? ⟨b, o + kk * 3 + 1, none⟩ = some (.int .i64 rb) ∧ w'.cell? ⟨b, o + kk * 3 + 2, none⟩ = some (.slice A1 n1 c1) ∧ q < w'.heap.size ∧ g < w'.heap.size ∧ b < w'.heap.size))
  have G1' := Lib.hid (fun (w' : World) (h : Below w.heap.size w w' ∧ w'.cell? ⟨g, 0, none⟩ = some (.int .i64 fl) ∧ w'.cell? ⟨g, 1, none⟩ = some (.int .i64 (c : Int)) ∧ w'.cell? ⟨g, 2, none⟩ = some (.bool false) ∧ w'.cell? ⟨q, 6, none⟩ = some (.int .i64 Ba) ∧ w'.cell? ⟨q, 40, none⟩ = some (.slice (some ⟨b, o, none⟩) n cc) ∧ w'.cell? ⟨b, o + kk * 3, none⟩ = some (.int .i64 ra) ∧ w'.cell? ⟨b, o + kk * 3 + 1, none⟩ = some (.int .i64 rb) ∧ w'.cell? ⟨b, o + kk * 3 + 2, none⟩ = some (.slice A1 n1 c1) ∧ q < w'.heap.size ∧ g < w'.heap.size ∧ b < w'.heap.size) => (Hsh.out w' h.1).mono (R' := fun e w'' => e = .returned (.int .i64 HD) ∧ (Below w.heap.size w w'' ∧ w''.cell? ⟨g, 0, none⟩ = some (.int .i64 fl) ∧ w''.cell? ⟨g, 1, none⟩ = some (.int .i64 (c : Int)) ∧ w''.cell? ⟨g, 2, none⟩ = some (.bool false) ∧ w''.cell? ⟨q, 6, none⟩ = some (.int .i64 Ba) ∧ w''.cell? ⟨q, 40, none⟩ = some (.slice (some ⟨b, o, none⟩) n cc) ∧ w''.cell? ⟨b, o + kk * 3, none⟩ = some (.int .i64 ra) ∧ w''.cell? ⟨b, o + kk * 3 + 1, none⟩ = some (.int .i64 rb) ∧ w''.cell? ⟨b, o + kk * 3 + 2, none⟩ = some (.slice A1 n1 c1) ∧ q < w''.heap.size ∧ g < w''.heap.size ∧ b < w''.heap.size)) (fun e w'' hh => ⟨hh.1, KeepS.out _ (h.1.trans (hh.2.mono h.1.size))⟩))
  have G2' := Lib.hid (fun (w' : World) (h : Below w.heap.size w w' ∧ w'.cell? ⟨g, 0, none⟩ = some (.int .i64 fl) ∧ w'.cell? ⟨g, 1, none⟩ = some (.int .i64 (c : Int)) ∧ w'.cell? ⟨g, 2, none⟩ = some (.bool false) ∧ w'.cell? ⟨q, 6, none⟩ = some (.int .i64 Ba) ∧ w'.cell? ⟨q, 40, none⟩ = some (.slice (some ⟨b, o, none⟩) n cc) ∧ w'.cell? ⟨b, o + kk * 3, none⟩ = some (.int .i64 ra) ∧ w'.cell? ⟨b, o + kk * 3 + 1, none⟩ = some (.int .i64 rb) ∧ w'.cell? ⟨b, o + kk * 3 + 2, none⟩ = some (.slice A1 n1 c1) ∧ q < w'.heap.size ∧ g < w'.heap.size ∧ b < w'.heap.size) => (Hrv.out w' h.1).mono (R' := fun e w'' => e = .returned (.tuple #[.string FB, .int .i64 0]) ∧ (Below w.heap.size w w'' ∧ w''.cell? ⟨g, 0, none⟩ = some (.int .i64 fl) ∧ w''.cell? ⟨g, 1, none⟩ = some (.int .i64 (c : Int)) ∧ w''.cell? ⟨g, 2, none⟩ = some (.bool false) ∧ w''.cell? ⟨q, 6, none⟩ = some (.int .i64 Ba) ∧ w''.cell? ⟨q, 40, none⟩ = some (.slice (some ⟨b, o, none⟩) n cc) ∧ w''.cell? ⟨b, o + kk * 3, none⟩ = some (.int .i64 ra) ∧ w''.cell? ⟨b, o + kk * 3 + 1, none⟩ = some (.int .i64 rb) ∧ w''.cell? ⟨b, o + kk * 3 + 2, none⟩ = some (.slice A1 n1 c1) ∧ q < w''.heap.size ∧ g < w''.heap.size ∧ b < w''.heap.size)) (fun e w'' hh => ⟨hh.1, KeepS.out _ (h.1.trans (hh.2.mono h.1.size))⟩))
  have H := Lib.hid h
  have Hm := Lib.hid hm
  clear hsh hrv hrd hrd1 hrk hl hHD hBa hFC hFB hFs hkk hkl hb0 hb1 hf1 hr hc64 hone h hm q6 q40 d0 d1 d2 hsl
  go_enter Try.func26, Try.ntmps26
  go_upto_region 18 with (fail)
  have hS7 := KeepS.out w (Below.refl _ _)
  clear m0 m1 m2 c4 c45 lq lg hbl
  go_region_held3 (fun w' => Below w.heap.size w w' ∧ w'.cell? ⟨g, 0, none⟩ = some (.int .i64 fl) ∧ w'.cell? ⟨g, 1, none⟩ = some (.int .i64 (c : Int)) ∧ w'.cell? ⟨g, 2, none⟩ = some (.bool false) ∧ w'.cell? ⟨q, 6, none⟩ = some (.int .i64 Ba) ∧ w'.cell? ⟨q, 40, none⟩ = some (.slice (some ⟨b, o, none⟩) n cc) ∧ w'.cell? ⟨b, o + kk * 3, none⟩ = some (.int .i64 ra) ∧ w'.cell? ⟨b, o + kk * 3 + 1, none⟩ = some (.int .i64 rb) ∧ w'.cell? ⟨b, o + kk * 3 + 2, none⟩ = some (.slice A1 n1 c1) ∧ q < w'.heap.size ∧ g < w'.heap.size ∧ b < w'.heap.size) (first | with_reducible assumption | exact KeepS.out _ (Below.drew (Below.refl _ _)) | exact KeepS.out _ (by assumption) | exact KeepS.out _ (Below.drew (by assumption)) | (go_split_ands; exact KeepS.out _ (by assumption)))
    (first | (go_at_call 19; with_reducible refine (G1'.out _ (by assumption)).mono ?_; rintro e w8 ⟨rfl, hS8⟩))
  clear hS7
  go_upto_region 19 with (fail)
  go_region_held3 (fun w' => Below w.heap.size w w' ∧ w'.cell? ⟨g, 0, none⟩ = some (.int .i64 fl) ∧ w'.cell? ⟨g, 1, none⟩ = some (.int .i64 (c : Int)) ∧ w'.cell? ⟨g, 2, none⟩ = some (.bool false) ∧ w'.cell? ⟨q, 6, none⟩ = some (.int .i64 Ba) ∧ w'.cell? ⟨q, 40, none⟩ = some (.slice (some ⟨b, o, none⟩) n cc) ∧ w'.cell? ⟨b, o + kk * 3, none⟩ = some (.int .i64 ra) ∧ w'.cell? ⟨b, o + kk * 3 + 1, none⟩ = some (.int .i64 rb) ∧ w'.cell? ⟨b, o + kk * 3 + 2, none⟩ = some (.slice A1 n1 c1) ∧ q < w'.heap.size ∧ g < w'.heap.size ∧ b < w'.heap.size) (first | with_reducible assumption | exact KeepS.out _ (Below.drew hS8.1) | exact KeepS.out _ (by assumption) | exact KeepS.out _ (Below.drew (by assumption)) | (go_split_ands; exact KeepS.out _ (by assumption)))
    (first | (go_at_call 69; with_reducible refine (G2'.out _ (by assumption)).mono ?_; rintro e w9 ⟨rfl, hS9⟩))
  have hB9 := hS9.1
  have h9 := H.out.below hB9
  have km9 := Hm.out.below hB9 Hm.out.lt
  have o9 := Only.of_below (S := fun k => k = q ∨ k = g) hB9
  have hc : Calls Try.prog 65 #[.pointer (some ⟨q, 0, none⟩), .int .i64 (OA : Int), .string FB] w9 fun e w' => e = .returned (.tuple #[]) ∧ Blk w' q 108 (shc (putS s OA FB) (some ⟨b, o, none⟩, n, cc) (some ⟨g, 0, none⟩)) ∧ Only w9 w' (fun k => k = q) := sput_any q s (some ⟨b, o, none⟩, n, cc) (some ⟨g, 0, none⟩) OA FB w9 h9.k Hl.out HFs.out
  have Hc2 := Lib.hid hc
  have H9 := Lib.hid h9
  have Km9 := Lib.hid km9
  have O9 := Lib.hid o9
  clear hc h9 km9 o9 hS9 hS8 hB9 KeepS G1' G2' H Hm
  go_wp2_with fail
  refine Hc2.out.mono ?_
  rintro e w11 ⟨rfl, k11, o11⟩
  have h11 := H9.out.box o11 k11 rfl
  have km11 := Km9.out.only o11 (Blk.ne_ Km9.out H9.out.k (by decide))
  have oB := O9.out.trans (o11.mono fun k _ h => .inl h)
  have f1 := km11.frozen 1
  have m1 : w11.cell? ⟨g, 1, none⟩ = some (.int .i64 (c : Int)) := km11.cell 1
  have lg := km11.lt
  clear o11 Hc2 H9 Km9 O9
  go_wp2_with fail
  go_ret
  rw [Hc1.out]
  exact ⟨rfl, h11.far km11 (Only.setSelf _ g 1 _), km11.set_ 1 (.int .i64 ((c : Int) + 1)), oB.trans ((Only.setSelf _ g 1 _).mono fun k _ h => .inr h)⟩
theorem sstep_done (q : Nat) (s : Sh) (sl : Sl) (ss : List Sl) (g fl c : Nat) (w : World) (h : ShR w q s sl ss (some ⟨g, 0, none⟩)) (hm : Blk w g 116 #[.int .i64 fl, .int .i64 c, .bool false]) (h8 : Lg8 s.log) (hat : s.at_ ≤ 1) (hkk : (fl : Int) + c = s.log.base + s.log.revs.length) (hb0 : 0 ≤ s.log.base) (hb1 : s.log.base ≤ 2147483647) (hf1 : fl ≤ 2147483647) (hr : s.log.revs.length ≤ 64) (hc64 : c ≤ 64) (hl : dlook s.d0 s.d1 ((1 - s.at_ : Nat) : Int) = 0) :
    Calls Try.prog 26 #[.pointer (some ⟨q, 0, none⟩)] w fun e w' => e = .returned (.bool true) ∧ ShR w' q (putS s ((1 - s.at_ : Nat) : Int) doneT) sl ss (some ⟨g, 0, none⟩) ∧ Blk w' g 116 #[.int .i64 fl, .int .i64 c, .bool true] ∧ Only w w' (fun k => k = q ∨ k = g) := by
  obtain ⟨AT, hAT⟩ : ∃ AT, s.at_ = AT := ⟨_, rfl⟩
  obtain ⟨OA, hOA⟩ : ∃ OA : Nat, 1 - AT = OA := ⟨_, rfl⟩
  rw [hAT] at hat
  have hwr : IntKind.i64.wrap (1 - (AT : Int)) = (OA : Int) := by rw [show 1 - (AT : Int) = (OA : Int) by omega]; exact IntWalk.i64_in _ (by omega)
  have HAT := Lib.hid hAT
  have HOA := Lib.hid hOA
  clear hAT hOA hat
  rw [HAT.out, HOA.out] at hl ⊢
  have hsh : ∀ w', Below w.heap.size w w' → Calls Try.prog 19 #[.pointer (some ⟨q, 0, none⟩)] w' fun e w'' => e = .returned (.int .i64 (s.log.base + s.log.revs.length)) ∧ Below w'.heap.size w' w'' := fun w' hb => by
    have h' := h.below hb
    exact shead_any q s sl (some ⟨g, 0, none⟩) w' h'.k h8 h'.len hb0 hb1 (by omega)
  obtain ⟨HD, hHD⟩ : ∃ HD, s.log.base + (s.log.revs.length : Int) = HD := ⟨_, rfl⟩
  rw [hHD] at hsh hkk
  have hw1 : IntKind.i64.wrap ((fl : Int) + (c : Int)) = HD := by rw [hkk]; exact IntWalk.i64_in _ (by omega)
  have hlt : decide (HD < HD) = false := decide_eq_false (by omega)
  have hdc : decide ((c : Int) < 0) = false := decide_eq_false (by omega)
  obtain ⟨DT, hDT⟩ : ∃ DT, doneT = DT := ⟨_, rfl⟩
  have hdn := fun w' => hdone_any w'
  rw [hDT] at hdn ⊢
  have hFs : DT.size ≤ 140737488351232 := by rw [← hDT]; decide
  have Hdn := Lib.hid hdn
  have Hsh := Lib.hid hsh
  have Hl := Lib.hid hl
  have HFs := Lib.hid hFs
  have c4 : w.cell? ⟨q, 4, none⟩ = some (.int .i64 (AT : Int)) := (h.k.cell 4).trans (shc_at.trans (by rw [← HAT.out]))
  have c45 : w.cell? ⟨q, 45, none⟩ = some (.pointer (some ⟨g, 0, none⟩)) := (h.k.cell 45).trans (shc_mv h8)
  have lq := h.k.lt
  have m0 : w.cell? ⟨g, 0, none⟩ = some (.int .i64 fl) := hm.cell 0
  have m1 : w.cell? ⟨g, 1, none⟩ = some (.int .i64 (c : Int)) := hm.cell 1
  have m2 : w.cell? ⟨g, 2, none⟩ = some (.bool false) := hm.cell 2
  have lg := hm.lt
  have KeepS := Lib.hid (fun (w' : World) (h : Below w.heap.size w w') => (⟨h, by rw [h.cell lg]; exact m0, by rw [h.cell lg]; exact m1, by rw [h.cell lg]; exact m2, Nat.lt_of_lt_of_le lq h.size, Nat.lt_of_lt_of_le lg h.size⟩ : Below w.heap.size w w' ∧ w'.cell? ⟨g, 0, none⟩ = some (.int .i64 fl) ∧ w'.cell? ⟨g, 1, none⟩ = some (.int .i64 (c : Int)) ∧ w'.cell? ⟨g, 2, none⟩ = some (.bool false) ∧ q < w'.heap.size ∧ g < w'.heap.size))
  have G1' := Lib.hid (fun (w' : World) (h : Below w.heap.size w w' ∧ w'.cell? ⟨g, 0, none⟩ = some (.int .i64 fl) ∧ w'.cell? ⟨g, 1, none⟩ = some (.int .i64 (c : Int)) ∧ w'.cell? ⟨g, 2, none⟩ = some (.bool false) ∧ q < w'.heap.size ∧ g < w'.heap.size) => (Hsh.out w' h.1).mono (R' := fun e w'' => e = .returned (.int .i64 HD) ∧ (Below w.heap.size w w'' ∧ w''.cell? ⟨g, 0, none⟩ = some (.int .i64 fl) ∧ w''.cell? ⟨g, 1, none⟩ = some (.int .i64 (c : Int)) ∧ w''.cell? ⟨g, 2, none⟩ = some (.bool false) ∧ q < w''.heap.size ∧ g < w''.heap.size)) (fun e w'' hh => ⟨hh.1, KeepS.out _ (h.1.trans (hh.2.mono h.1.size))⟩))
  have H := Lib.hid h
  have Hm := Lib.hid hm
  clear hsh hl hHD hDT hFs hkk hb0 hb1 hf1 hr hc64 h hm hdn
  go_enter Try.func26, Try.ntmps26
  go_upto_region 18 with (fail)
  have hS7 := KeepS.out w (Below.refl _ _)
  clear m0 m1 m2 c4 c45 lq lg
  go_region_held3 (fun w' => Below w.heap.size w w' ∧ w'.cell? ⟨g, 0, none⟩ = some (.int .i64 fl) ∧ w'.cell? ⟨g, 1, none⟩ = some (.int .i64 (c : Int)) ∧ w'.cell? ⟨g, 2, none⟩ = some (.bool false) ∧ q < w'.heap.size ∧ g < w'.heap.size) (first | with_reducible assumption | exact KeepS.out _ (Below.drew (Below.refl _ _)) | exact KeepS.out _ (by assumption) | exact KeepS.out _ (Below.drew (by assumption)) | (go_split_ands; exact KeepS.out _ (by assumption)))
    (first | (go_at_call 19; with_reducible refine (G1'.out _ (by assumption)).mono ?_; rintro e w8 ⟨rfl, hS8⟩))
  have hB8 := hS8.1
  have h8' := H.out.below hB8
  have km8 := Hm.out.below hB8 Hm.out.lt
  have o8 := Only.of_below (S := fun k => k = q ∨ k = g) hB8
  obtain ⟨-, -, -, m2, -, lg⟩ := hS8
  have H8 := Lib.hid h8'
  have Km8 := Lib.hid km8
  have O8 := Lib.hid o8
  clear h8' km8 o8 hB8 KeepS G1' H Hm hS7
  go_wp2_with fail
  refine (Hdn.out _).mono ?_
  rintro e w9 ⟨rfl, hb⟩
  have h9 := H8.out.below hb
  have km9 := Km8.out.below hb Km8.out.lt
  have o9 := O8.out.trans (Only.of_below (S := fun k => k = q ∨ k = g) hb)
  have hc : Calls Try.prog 65 #[.pointer (some ⟨q, 0, none⟩), .int .i64 (OA : Int), .string DT] w9 fun e w' => e = .returned (.tuple #[]) ∧ Blk w' q 108 (shc (putS s OA DT) sl (some ⟨g, 0, none⟩)) ∧ Only w9 w' (fun k => k = q) := sput_any q s sl (some ⟨g, 0, none⟩) OA DT w9 h9.k Hl.out HFs.out
  have Hc2 := Lib.hid hc
  have H9 := Lib.hid h9
  have Km9 := Lib.hid km9
  have O9 := Lib.hid o9
  clear hc h9 km9 o9 hb H8 Km8 O8 m2 lg
  go_wp2_with fail
  refine Hc2.out.mono ?_
  rintro e w11 ⟨rfl, k11, o11⟩
  have h11 := H9.out.box o11 k11 rfl
  have km11 := Km9.out.only o11 (Blk.ne_ Km9.out H9.out.k (by decide))
  have oB := O9.out.trans (o11.mono fun k _ h => .inl h)
  have f2 := km11.frozen 2
  have m2 : w11.cell? ⟨g, 2, none⟩ = some (.bool false) := km11.cell 2
  have lg := km11.lt
  clear o11 Hc2 H9 Km9 O9
  go_wp2_with fail
  go_ret
  exact ⟨rfl, h11.far km11 (Only.setSelf _ g 2 _), km11.set_ 2 (.bool true), oB.trans ((Only.setSelf _ g 2 _).mono fun k _ h => .inr h)⟩
end Go.Proofs.Ytmnnaemcjmiplaa
