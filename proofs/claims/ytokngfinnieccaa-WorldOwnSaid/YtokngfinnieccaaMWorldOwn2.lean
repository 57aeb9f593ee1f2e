/- walk of scrivkeep.WorldOwn. -/
import Derived.Test.YtokngfinnieccaaO28
import Derived.Test.YtokngfinnieccaaMWorldOwn1
namespace Go.Proofs.Ytokngfinnieccaa
open Go.ChangeShapes Go.WideShapes Go.RowKit
set_option linter.unusedVariables false
set_option linter.unusedSimpArgs false
set_option maxRecDepth 100000
set_option maxHeartbeats 4000000
theorem wpList_load_blkWo {ops : Array Oper} {rest : List Oper} {o : Oper} {a : Act} {w : World} {Q : Exit → Act → World → Prop} (hgd : Region.wanted o (yielded ops a.tmps) = true) (ty : TypeId) (x : Operand) (ho : o.op = .load ty x)
 (g : Nat) (hx : a.eval x = .pointer (some ⟨g, 0, none⟩)) (cs : Array Value) (hl : (loadVar ty ⟨g, 0, none⟩).run Try.prog w = .ok (.agg cs) w)
 (h : wpList Try.prog ops Q rest (a.put o.dst (.agg cs)) w) : wpList Try.prog ops Q (o :: rest) a w :=
 BigFrame.wpList_want hgd fun _ hK => by
  unfold Oper.wp execOp
  simp only [ho, hx, Instr.loadAt, Instr.sureAddr, Sem.run_bind, Sem.run_pure, Result.andThen_ok, hl]
  exact hK _ _ h
theorem ws_one {k i : Nat} {d : List Pt} {S S1 S2 : Ws} (h1 : ActD k i d S.s S.X S.put S.edits S.e S1.s S1.X S1.put S1.edits S1.e) (h2 : ActD k i d S.s S.X S.put S.edits S.e S2.s S2.X S2.put S2.edits S2.e) : S2 = S1 := by
 obtain ⟨r1, r2, r3, r4, r5⟩ := h1.one h2
 cases S1
 cases S2
 simp only at r1 r2 r3 r4 r5
 subst r1 r2 r3 r4 r5
 rfl
def S0 : Ws := ⟨shN, (seatsN 2).set 0 (editS (seat0 0) [(2, 0, ⟨#[97]⟩)]), 0 + (nP (units [(2, 0, ⟨#[97]⟩)]) : Int), 0 + 1, fun k => if k = 0 then 0 + 1 else 0⟩
theorem S0_len : S0.X.length = 2 := by
 rw [S0, List.length_set, seatsN, List.length_map, List.length_range]
theorem walk_WorldOwn (v1 : Value) (l : List (List Int)) (v2 : Value) (ds : List (List Pt)) (w : World) (hl : IsRows w v1 l) (hd : IsDeltasN w v2 ds) :
 Calls Try.prog 13 #[v1, v2] w fun e w' => e = .returned (.bool true) ∧ Below w.heap.size w w' := by
 obtain ⟨Al, nl, cl, sl, rfl, hrs, hrl⟩ := hl
 obtain ⟨Ad, nd, cd, sd, rfl, hds, hdd, hdn⟩ := hd
 obtain ⟨B, hB⟩ : ∃ B, w.heap.size = B := ⟨_, rfl⟩
 rw [hB] at hrs hrl hds hdd
 have HRS := Lib.hid hrs
 have HRL := Lib.hid hrl
 have HDS := Lib.hid hds
 have HDN := Lib.hid hdn
 have HDD := Lib.hid hdd
 have HBw := Lib.hid hB
 have HB : Hid (B ≤ w.heap.size) := Lib.hid (by omega)
 have HW : Hid (Below B w w) := Lib.hid (Below.refl _ _)
 have hnl0 : (0 : Int) ≤ (nl : Int) := by omega
 have hnd0 : (0 : Int) ≤ (nd : Int) := by omega
 have hnlc : nl ≤ cl ∧ cl ≤ maxLen := ⟨hrs.2.1, hrs.2.2.1⟩
 have hndc : nd ≤ cd ∧ cd ≤ maxLen := ⟨hds.2.1, hds.2.2.1⟩
 have hcl1 : (nl : Int) ≤ (cl : Int) := by omega
 have hcl2 : (cl : Int) ≤ 9223372036854775807 := by have := hnlc.2; simp only [maxLen] at this; omega
 have hcd1 : (nd : Int) ≤ (cd : Int) := by omega
 have hcd2 : (cd : Int) ≤ 9223372036854775807 := by have := hndc.2; simp only [maxLen] at this; omega
 clear hrs hrl hds hdd hdn hB hnlc hndc
 go_enter Try.func13, Try.ntmps13
 have hc_ := wnew_S 2 (by decide) (by decide) w
 have Hc_ := Lib.hid hc_
 clear hc_
 go_wp2_with fail
 refine Hc_.out.mono ?_
 rintro en w1 ⟨q1, sq1, gs1, cap1, sp1, F1, rfl, hm1, hf1, hq1, hg1, hi1, hb1⟩
 clear Hc_
 rw [HBw.out] at hf1 hq1 hg1
 have HM1 := Lib.hid hm1
 have HF1 := Lib.hid hf1
 have HQ1 := Lib.hid hq1
 have HG1 := Lib.hid hg1
 clear hm1 hf1 hq1 hg1 hi1
 replace HW := Lib.hid (HW.out.trans (hb1.mono HB.out))
 replace HB : Hid (B ≤ w1.heap.size) := Lib.hid (Nat.le_trans HB.out hb1.size)
 clear hb1
 have hc_ := wnew_S 2 (by decide) (by decide) w1
 have Hc_ := Lib.hid hc_
 clear hc_
 go_wp2_with fail
 refine Hc_.out.mono ?_
 rintro en w2 ⟨q2, sq2, gs2, cap2, sp2, F2, rfl, hm2, hf2, hq2, hg2, hi2, hb2⟩
 clear Hc_
 have htw := TWo.new HM1.out HF1.out HQ1.out HG1.out hb2 hm2 hf2 hq2 hg2 hi2
 have HTW := Lib.hid htw
 clear htw HM1 HF1 HQ1 HG1 hm2 hf2 hq2 hg2 hi2
 replace HW := Lib.hid (HW.out.trans (hb2.mono HB.out))
 replace HB : Hid (B ≤ w2.heap.size) := Lib.hid (Nat.le_trans HB.out hb2.size)
 clear hb2
 have hc_ := wput_any ⟨#[97]⟩ (by decide) w2
 have Hc_ := Lib.hid hc_
 clear hc_
 go_wp2_with fail
 refine Hc_.out.mono ?_
 rintro en w1 ⟨Aa, rfl, hra, hza, hb1⟩
 clear Hc_
 have HRA := Lib.hid hra
 have HZA := Lib.hid hza
 have HBB := Lib.hid hb1
 clear hra hza
 replace HW := Lib.hid (HW.out.trans (hb1.mono HB.out))
 replace HB : Hid (B ≤ w1.heap.size) := Lib.hid (Nat.le_trans HB.out hb1.size)
 clear hb1
 have hc_ := two_edit HTW.out HBB.out (i := 0) (x := seat0 0) rfl [(2, 0, ⟨#[97]⟩)] Aa 1 1 HRA.out HZA.out ⟨chk_a, by decide, by rw [nP_a]; decide⟩
 have Hc_ := Lib.hid hc_
 clear hc_
 go_wp2_with fail
 refine Hc_.out.mono ?_
 rintro en w2 ⟨rfl, htw, hb9⟩
 clear Hc_ HTW HRA HZA HBB
 have HTW := Lib.hid htw
 clear htw
 replace HW := Lib.hid (HW.out.trans hb9)
 replace HB : Hid (B ≤ w2.heap.size) := Lib.hid (Nat.le_trans HB.out hb9.size)
 clear hb9
 have hc_ := wput_any ⟨#[97]⟩ (by decide) w2
 have Hc_ := Lib.hid hc_
 clear hc_
 go_wp2_with fail
 refine Hc_.out.mono ?_
 rintro en w3 ⟨Aa, rfl, hra, hza, hb3⟩
 clear Hc_
 have HRA := Lib.hid hra
 have HZA := Lib.hid hza
 have HBB := Lib.hid hb3
 clear hra hza
 replace HW := Lib.hid (HW.out.trans (hb3.mono HB.out))
 replace HB : Hid (B ≤ w3.heap.size) := Lib.hid (Nat.le_trans HB.out hb3.size)
 clear hb3
 have hc_ := two_edit HTW.out.swap HBB.out (i := 0) (x := seat0 0) rfl [(2, 0, ⟨#[97]⟩)] Aa 1 1 HRA.out HZA.out ⟨chk_a, by decide, by rw [nP_a]; decide⟩
 have Hc_ := Lib.hid hc_
 clear hc_
 go_wp2_with fail
 refine Hc_.out.mono ?_
 rintro en w4 ⟨rfl, htw, hb9⟩
 clear Hc_ HTW HRA HZA HBB
 have htw2 : TWo w4 B q1 q2 S0 S0 := htw.swap
 have HTW := Lib.hid htw2
 clear htw2
 clear htw
 replace HW := Lib.hid (HW.out.trans hb9)
 replace HB : Hid (B ≤ w4.heap.size) := Lib.hid (Nat.le_trans HB.out hb9.size)
 clear hb9
 have HX : Hid (S0.X.length = 2) := Lib.hid S0_len
 go_upto_region 6 with (fail)
 go_loopw [9, 10, 11, 12, 14, 15, 16, 17, 59] (fun x9 x10 x11 x12 x14 x15 x16 x17 iv wr => ∃ (k : Nat) (S : Ws), k ≤ nl ∧ iv = .int .i64 k ∧ Hid (TWo wr B q1 q2 S S) ∧ Hid (S.X.length = 2) ∧ Hid (Below B w wr) ∧ Hid (B ≤ wr.heap.size)) (fun _ _ _ _ _ _ _ _ iv _ => nl - (intOf iv).toNat)
 case atStart => exact ⟨0, S0, by omega, rfl, HTW, HX, HW, HB⟩
 case round =>
  clear HTW HX HW HB
  obtain ⟨k, S, hk, rfl, HTW, HX, HW, HB⟩ := hrel
  by_cases hlt : k < nl
  · skip
    have hk0 : (0 : Int) ≤ (k : Int) := by omega
    have hkn : (k : Int) < (nl : Int) := by omega
    have hsll : sl.length = nl := HRS.out.1.symm
    have hll : l.length = nl := by rw [← hsll]; exact HRL.out.1.symm
    obtain ⟨sk, hsk⟩ : ∃ sk, sl[k]? = some sk := ⟨_, List.getElem?_eq_getElem (by omega)⟩
    obtain ⟨cs, hcs⟩ : ∃ cs, l[k]? = some cs := ⟨_, List.getElem?_eq_getElem (by omega)⟩
    obtain ⟨bk, ok, hAl, hbk, dk⟩ := (HRS.out.below HW.out).at_ hsk
    subst hAl
    have hbk' : bk < wr.heap.size := Nat.lt_of_lt_of_le hbk HB.out
    have hrow := HRL.out.2 k sk cs hsk hcs
    obtain ⟨Ac, nc, cc⟩ := sk
    simp only at hrow dk
    have HRW := Lib.hid hrow
    have hnc0 : (0 : Int) ≤ (nc : Int) := by omega
    have HNC : Hid (nc = cs.length) := Lib.hid hrow.1
    clear hsll hll hsk hcs hrow
    by_cases hkd : k < nd
    · skip
      have hkd' : (k : Int) < (nd : Int) := by omega
      have hsdl : sd.length = nd := HDS.out.1.symm
      have hdl : ds.length = nd := by rw [← hsdl]; exact HDD.out.1.symm
      obtain ⟨tk, htk⟩ : ∃ tk, sd[k]? = some tk := ⟨_, List.getElem?_eq_getElem (by omega)⟩
      obtain ⟨d, hdk⟩ : ∃ d, ds[k]? = some d := ⟨_, List.getElem?_eq_getElem (by omega)⟩
      obtain ⟨be, oe, hAd, hbe, de⟩ := (HDS.out.below HW.out).at_ htk
      subst hAd
      have hbe' : be < wr.heap.size := Nat.lt_of_lt_of_le hbe HB.out
      have hdel := HDD.out.2 k tk d htk hdk
      obtain ⟨Ae, ne, ce⟩ := tk
      simp only at hdel de
      have HDL := Lib.hid hdel
      have hne0 : (0 : Int) ≤ (ne : Int) := by omega
      have hnec : ne ≤ ce ∧ ce ≤ maxLen := ⟨hdel.2.1.1, hdel.2.1.2.1⟩
      have hce1 : (ne : Int) ≤ (ce : Int) := by omega
      have hce2 : (ce : Int) ≤ 9223372036854775807 := by have := hnec.2; simp only [maxLen] at this; omega
      have HTK := Lib.hid htk
      clear hsdl hdl hdk hdel hnec
      have hne9 : ne ≤ 4398046511104 := HDN.out k (Ae, ne, ce) HTK.out
      have hc_ := two_act HTW.out.swap cs Ac nc cc (HRW.out.below HW.out) d Ae ne ce (HDL.out.below HW.out)
      rw [HX.out] at hc_
      have Hc_ := Lib.hid hc_
      clear hc_
      go_wp2_with fail
      refine Hc_.out.mono ?_
      rintro en v1 ⟨rfl, S2, hact, htw, hb9⟩
      clear Hc_
      have HT1 := Lib.hid htw.swap
      have HACT := Lib.hid hact
      clear htw hact HTW
      replace HW := Lib.hid (HW.out.trans hb9)
      replace HB : Hid (B ≤ v1.heap.size) := Lib.hid (Nat.le_trans HB.out hb9.size)
      clear hb9
      have HB1 := HB
      have hc_ := cloneB_any d Ae ne ce v1 ((HDL.out.below HW.out).more HB.out) hne9
      have Hc_ := Lib.hid hc_
      clear hc_
      go_wp2_with fail
      refine Hc_.out.mono ?_
      rintro en v2 ⟨vx, rfl, hox, hb9⟩
      clear Hc_
      have HDT := Lib.hid ((HDL.out.below HW.out).2.2)
      obtain ⟨Ax, cx, hvx⟩ := hox.form_ (n := ne) (HDL.out.below HW.out).1.symm
      subst hvx
      have HOX := Lib.hid hox
      have HBB := Lib.hid hb9
      clear hox
      replace HW := Lib.hid (HW.out.trans (hb9.mono HB.out))
      replace HB : Hid (B ≤ v2.heap.size) := Lib.hid (Nat.le_trans HB.out hb9.size)
      clear hb9
      have hc_ := two_act_own HT1.out HBB.out cs Ac nc cc (HRW.out.below HW.out) d Ax ne cx HOX.out HDT.out
      rw [HX.out] at hc_
      have Hc_ := Lib.hid hc_
      clear hc_
      go_wp2_with fail
      refine Hc_.out.mono ?_
      rintro en v3 ⟨rfl, S3, hact, hown, hpass, hb9⟩
      clear Hc_ HT1 HBB HOX
      have e3 := ws_one HACT.out hact
      subst e3
      have HX2 : Hid (S3.X.length = 2) := Lib.hid (by rw [hact.len]; exact HX.out)
      have HOX := Lib.hid hown
      have HPASS := Lib.hid hpass
      clear hact hown hpass HACT HX
      replace HW := Lib.hid (HW.out.trans hb9)
      replace HB : Hid (B ≤ v3.heap.size) := Lib.hid (Nat.le_trans HB.out hb9.size)
      clear hb9
      have hc_ := spoil_spo (7, 0, ⟨#[]⟩) (.slice Ax ne cx) v3 (OwnP.spo HOX.out)
      have Hc_ := Lib.hid hc_
      clear hc_
      go_wp2_with fail
      refine Hc_.out.mono ?_
      rintro en v4 ⟨rfl, ho9, -⟩
      clear Hc_
      have HT4 := Lib.hid (HPASS.out v4 ho9)
      have hb9 := ho9.below HB.out (fun z hz => Nat.le_trans HB1.out (own_ge HOX.out z hz))
      clear ho9 HPASS HOX HB1
      replace HW := Lib.hid (HW.out.trans hb9)
      replace HB : Hid (B ≤ v4.heap.size) := Lib.hid (Nat.le_trans HB.out hb9.size)
      clear hb9
      obtain ⟨Z0, hZ0⟩ : ∃ Z0, v4.heap.size = Z0 := ⟨_, rfl⟩
      have HZ0 := Lib.hid hZ0
      have HBZ : Hid (B ≤ Z0) := Lib.hid (by rw [← hZ0]; exact HB.out)
      have HW4 := HW
      have hc_ := two_revs HT4.out
      rw [hZ0] at hc_
      have Hc_ := Lib.hid hc_
      clear hc_ hZ0
      go_wp2_with fail
      refine Hc_.out.mono ?_
      rintro en v5 ⟨⟨A4, n4, c4⟩, ss4, rfl, hv4, hb9⟩
      clear Hc_
      simp only at hv4
      obtain ⟨L4, hL4⟩ : ∃ L4, S3.s.log.revs = L4 := ⟨_, rfl⟩
      have hn64 : L4.length ≤ 64 := by rw [← hL4]; exact HT4.out.len
      rw [hL4] at hv4
      have hn4 : n4 = L4.length := by
       obtain ⟨A9, c9, e9⟩ := hv4.form
       injection e9
      have hrow := hv4.row
      rw [← hn4] at hrow
      have hspo : ∀ d ∈ ss4, Spo v5 (.slice d.1 d.2.1 d.2.2) ∧ ∀ q, (Value.slice d.1 d.2.1 d.2.2).ownBlock = some q → Z0 ≤ q := fun d hd => by
       obtain ⟨j, hj, rfl⟩ := List.getElem_of_mem hd
       have := (hv4.ds j (by rw [← hv4.len]; exact hj)).1
       exact ⟨OwnP.spo this, fun q hq => own_ge this q hq⟩
      have Hrow := Lib.hid hrow
      have Hlen4 := Lib.hid hv4.len
      have Hblk := Lib.hid (fun d hd => (hspo d hd).2)
      have Hspo : Hid (∀ d ∈ ss4, Spo v5 (.slice d.1 d.2.1 d.2.2)) := Lib.hid (fun d hd => (hspo d hd).1)
      have HC : Hid (Below Z0 v4 v5) := Lib.hid hb9
      have Hn4 := Lib.hid hn4
      have hn4b : n4 ≤ 64 := by omega
      clear hb9 hv4 hrow hspo hn4 hL4 hn64 HW HB
      go_upto_region 16 with (fail)
      obtain ⟨W5, rfl⟩ : ∃ W5, W5 = wr := ⟨_, rfl⟩
      go_loopw [14, 88] (fun x14 iv wr => ∃ (j : Nat), j ≤ n4 ∧ iv = .int .i64 j ∧ Hid (wr.ownsRow Z0 30 3 (.slice A4 n4 c4) n4 (rc L4 ss4)) ∧ Hid (∀ d ∈ ss4, Spo wr (.slice d.1 d.2.1 d.2.2)) ∧ Hid (Below Z0 v4 wr)) (fun _ iv _ => n4 - (intOf iv).toNat)
      case atStart => exact ⟨0, by omega, rfl, Hrow, Hspo, HC⟩
      case round =>
       clear Hrow Hspo HC
       obtain ⟨j, hj, rfl, Hrow, Hspo, HC⟩ := hrel
       by_cases hjt : j < n4
       · skip
         have hjl : j < L4.length := by have := Hn4.out; omega
         have hjs : j < ss4.length := by have := Hlen4.out; omega
         obtain ⟨b4, c4', e4, -⟩ := World.ownsRow.form Hrow.out (by omega)
         injection e4 with e4 e4' e4''
         subst e4
         have hb4l := (World.ownsRow.lt Hrow.out b4 rfl).2
         obtain ⟨q0, qq1, qq2⟩ := rc_at L4 ss4 Hlen4.out j hjl
         have hrl := rc_len L4 ss4 Hlen4.out
         have hj3 : j * 3 + 2 < (rc L4 ss4).length := by rw [hrl]; omega
         have d0 := World.ownsRow.cellAt Hrow.out (j * 3) (by omega)
         have d1 := World.ownsRow.cellAt Hrow.out (j * 3 + 1) (by omega)
         have d2 := World.ownsRow.cellAt Hrow.out (j * 3 + 2) (by omega)
         rw [q0] at d0
         rw [qq1] at d1
         rw [qq2] at d2
         have Hmem := Lib.hid (List.getElem_mem hjs : ss4[j] ∈ ss4)
         obtain ⟨dd, hdd⟩ : ∃ dd, ss4[j] = dd := ⟨_, rfl⟩
         rw [hdd] at d2 Hmem
         obtain ⟨f, hf⟩ : ∃ f, L4[j] = f := ⟨_, rfl⟩
         rw [hf] at d0 d1
         obtain ⟨ya, yb, yd⟩ := f
         obtain ⟨A6, n6, c6⟩ := dd
         simp only at d0 d1 d2
         have hj0 : (0 : Int) ≤ (j : Int) := by omega
         have hjn : (j : Int) < (n4 : Int) := by omega
         clear q0 qq1 qq2 hrl hdd hf e4' e4''
         go_upto_region 18 with (fail)
         have hal := (Below.refl wr.heap.size wr).alloc (Nat.le_refl _) (.cells #[.int .i64 ya, .int .i64 yb, .slice A6 n6 c6] 30)
         have hzs : Z0 ≤ wr.heap.size := by rw [← HZ0.out]; exact HC.out.size
         have hrow6 := own_below Hrow.out hal
         have hspo6 : ∀ d ∈ ss4, Spo (wr.alloc (.cells #[.int .i64 ya, .int .i64 yb, .slice A6 n6 c6] 30)) (.slice d.1 d.2.1 d.2.2) := fun d hd => (Hspo.out d hd).below hal
         have hc6 := HC.out.trans (hal.mono hzs)
         have hzs6 := Nat.le_trans hzs hal.size
         have kz := Blk.new wr 30 #[.int .i64 ya, .int .i64 yb, .slice A6 n6 c6]
         obtain ⟨U6, hU⟩ : ∃ U6, wr.alloc (.cells #[.int .i64 ya, .int .i64 yb, .slice A6 n6 c6] 30) = U6 := ⟨_, rfl⟩
         rw [hU] at hrow6 hspo6 hc6 hzs6 kz ⊢
         obtain ⟨z6, hzz⟩ : ∃ z6, wr.heap.size = z6 := ⟨_, rfl⟩
         rw [hzz] at kz ⊢
         have a2 := kz.cell 2
         have lz := kz.lt
         have Hsp := Lib.hid (spoil_spo (8, 0, ⟨#[]⟩) (.slice A6 n6 c6) U6 (hspo6 _ Hmem.out))
         have Hrow6 := Lib.hid hrow6
         have Hspo6 := Lib.hid hspo6
         have HC6 := Lib.hid hc6
         have Hzs6 := Lib.hid hzs6
         clear d0 d1 d2 hb4l hU hzz hal Hrow Hspo HC hrow6 hspo6 hc6 hzs6 hzs kz
         go_wp2_with fail
         refine Hsp.out.mono ?_
         rintro e w7 ⟨rfl, ho7, hsp7⟩
         have hq7 := Hblk.out _ Hmem.out
         have Hrow7 := Lib.hid (Spo.row (Hspo6.out _ Hmem.out) ho7 Hrow6.out (by decide))
         have Hspo7 : Hid (∀ d ∈ ss4, Spo w7 (.slice d.1 d.2.1 d.2.2)) := Lib.hid fun d hd => hsp7 _ (Hspo6.out d hd)
         have HC7 := Lib.hid (HC6.out.trans (ho7.below Hzs6.out (fun q hq => hq7 q hq)))
         clear ho7 hsp7 hq7 a2 lz Hsp Hrow6 Hspo6 HC6 Hzs6
         go_wp2_with fail
         go_roundw
         case rel => exact ⟨j + 1, by omega, by go_num, Hrow7, Hspo7, HC7⟩
         case measure => simp [intOf]; omega
       · skip
         obtain rfl : j = n4 := by omega
         clear Hrow Hspo Hblk Hlen4 Hn4
         go_upto_region 21 with (fail)
         obtain ⟨W6, rfl⟩ : ∃ W6, W6 = wr := ⟨_, rfl⟩
         go_loopw [15, 16, 17, 97] (fun x15 x16 x17 iv wr => ∃ (i : Nat), i ≤ 2 ∧ iv = .int .i64 i ∧ Hid (Below Z0 v4 wr)) (fun _ _ _ iv _ => 2 - (intOf iv).toNat)
         case atStart => exact ⟨0, by omega, rfl, HC⟩
         case round =>
          clear HC
          obtain ⟨i, hi, rfl, HC⟩ := hrel
          by_cases hit : i < 2
          · skip
            have hi0 : (0 : Int) ≤ (i : Int) := by omega
            have hi2 : (i : Int) < 2 := by omega
            obtain ⟨x, hx⟩ : ∃ x, S3.X[i]? = some x := ⟨_, List.getElem?_eq_getElem (by rw [HX2.out]; exact hit)⟩
            have hb1 : Below v4.heap.size v4 wr := by rw [HZ0.out]; exact HC.out
            have hc_ := two_client (HT4.out.below hb1) hx
            unfold clv clc at hc_
            simp only at hc_
            have Hc_ := Lib.hid hc_
            have hzs : Z0 ≤ wr.heap.size := by rw [← HZ0.out]; exact hb1.size
            have Hzs := Lib.hid hzs
            clear hc_ hx hb1 hzs
            go_wp2_with fail
            refine Hc_.out.mono ?_
            rintro en v6 ⟨A1, n1, c1, A2, n2, c2, rfl, ho1, ho2, hb9⟩
            clear Hc_
            have kz := Blk.new v6 92 #[.int .i64 x.c.who, .int .i64 x.c.rev, .int .i64 x.c.seq, .string x.c.text, .bool x.c.fly, .slice A1 n1 c1, .bool x.c.wait, .slice A2 n2 c2]
            have hal := (Below.refl v6.heap.size v6).alloc (Nat.le_refl _) (.cells #[.int .i64 x.c.who, .int .i64 x.c.rev, .int .i64 x.c.seq, .string x.c.text, .bool x.c.fly, .slice A1 n1 c1, .bool x.c.wait, .slice A2 n2 c2] 92)
            have hc6 := (HC.out.trans (hb9.mono Hzs.out)).trans (hal.mono (Nat.le_trans Hzs.out hb9.size))
            have hs1 := (OwnP.spo ho1).below hal
            have hs2 := (OwnP.spo ho2).below hal
            have g1 : ∀ q, (Value.slice A1 n1 c1).ownBlock = some q → Z0 ≤ q ∧ q < v6.heap.size := fun q hq => ⟨Nat.le_trans Hzs.out (own_ge ho1 q hq), own_lt ho1 q hq⟩
            have g2 : ∀ q, (Value.slice A2 n2 c2).ownBlock = some q → Z0 ≤ q := fun q hq => Nat.le_trans Hzs.out (own_ge ho2 q hq)
            have hzs6 := Nat.le_trans (Nat.le_trans Hzs.out hb9.size) hal.size
            go_upto_region 24 with (fail)
            obtain ⟨gz, hgz⟩ : ∃ gz, v6.heap.size = gz := ⟨_, rfl⟩
            obtain ⟨u1, hu1⟩ : ∃ u1, v6.alloc (.cells #[.int .i64 x.c.who, .int .i64 x.c.rev, .int .i64 x.c.seq, .string x.c.text, .bool x.c.fly, .slice A1 n1 c1, .bool x.c.wait, .slice A2 n2 c2] 92) = u1 := ⟨_, rfl⟩
            rw [hu1] at kz hc6 hs1 hs2 hzs6 ⊢
            rw [hgz] at kz g1 ⊢
            have HK := Lib.hid kz
            have HC6 := Lib.hid hc6
            have HS1 := Lib.hid hs1
            have HS2 := Lib.hid hs2
            have HG1 := Lib.hid g1
            have HG2 := Lib.hid g2
            have HZ6 := Lib.hid hzs6
            have z5 := kz.cell 5
            have lz := kz.lt
            clear kz hal hc6 hs1 hs2 g1 g2 hzs6 hgz hu1 ho1 ho2 hb9 HC Hzs
            have hc_ := spoil_spo (6, 0, ⟨#[]⟩) (.slice A1 n1 c1) u1 HS1.out
            have Hc_ := Lib.hid hc_
            clear hc_
            go_wp2_with fail
            refine Hc_.out.mono ?_
            rintro en v7 ⟨rfl, ho7, hsp7⟩
            clear Hc_ z5 lz
            have HK7 := Lib.hid (HK.out.only ho7 (fun hq => by have := (HG1.out gz hq).2; omega))
            have HC7 := Lib.hid (HC6.out.trans (ho7.below HZ6.out (fun q hq => (HG1.out q hq).1)))
            have HS7 := Lib.hid (hsp7 _ HS2.out)
            have HZ7 := Lib.hid (Nat.le_trans HZ6.out ho7.2.2.2.1)
            have z7 := HK7.out.cell 7
            have lz := HK7.out.lt
            clear HK HC6 HS1 HS2 HG1 HZ6 ho7 hsp7
            have hc_ := spoil_spo (5, 0, ⟨#[]⟩) (.slice A2 n2 c2) v7 HS7.out
            have Hc_ := Lib.hid hc_
            clear hc_
            go_wp2_with fail
            refine Hc_.out.mono ?_
            rintro en v8 ⟨rfl, ho8, -⟩
            clear Hc_ z7 lz
            have HC8 := Lib.hid (HC7.out.trans (ho8.below HZ7.out (fun q hq => HG2.out q hq)))
            clear ho8 HC7 HK7 HS7 HG2 HZ7
            go_wp2_with fail
            go_roundw
            case rel => exact ⟨i + 1, by omega, by go_num, HC8⟩
            case measure => simp [intOf]; omega
          · skip
            obtain rfl : i = 2 := by omega
            have hb1 : Below v4.heap.size v4 wr := by rw [HZ0.out]; exact HC.out
            have HTW := Lib.hid (HT4.out.below hb1)
            have HW := Lib.hid (HW4.out.trans (HC.out.mono HBZ.out))
            have HB : Hid (B ≤ wr.heap.size) := Lib.hid (by have h1 := hb1.size; have h2 := HBZ.out; have h3 := HZ0.out; omega)
            clear hb1 HC HT4
            go_wp2_with fail
            go_roundw
            case rel => exact ⟨k + 1, S3, by omega, by go_num, HTW, HX2, HW, HB⟩
            case measure => simp [intOf]; omega
    · skip
      have hkd' : (nd : Int) ≤ (k : Int) := by omega
      have HNIL : Hid (∀ w9 : World, RdP w9 B none 0 0 []) := Lib.hid (fun w9 => ⟨rfl, Rd.nil _ _ _, by simp⟩)
      have hc_ := two_act HTW.out.swap cs Ac nc cc (HRW.out.below HW.out) [] none 0 0 (HNIL.out wr)
      rw [HX.out] at hc_
      have Hc_ := Lib.hid hc_
      clear hc_
      go_wp2_with fail
      refine Hc_.out.mono ?_
      rintro en v1 ⟨rfl, S2, hact, htw, hb9⟩
      clear Hc_
      have HT1 := Lib.hid htw.swap
      have HACT := Lib.hid hact
      clear htw hact HTW
      replace HW := Lib.hid (HW.out.trans hb9)
      replace HB : Hid (B ≤ v1.heap.size) := Lib.hid (Nat.le_trans HB.out hb9.size)
      clear hb9
      have HB1 := HB
      have hc_ := cloneB_any [] none 0 0 v1 ((HNIL.out v1).more HB.out) (by decide)
      have Hc_ := Lib.hid hc_
      clear hc_
      go_wp2_with fail
      refine Hc_.out.mono ?_
      rintro en v2 ⟨vx, rfl, hox, hb9⟩
      clear Hc_
      have HDT := Lib.hid ((HNIL.out v1).2.2)
      obtain ⟨Ax, cx, hvx⟩ := hox.form_ (n := 0) (HNIL.out v1).1.symm
      subst hvx
      have HOX := Lib.hid hox
      have HBB := Lib.hid hb9
      clear hox
      replace HW := Lib.hid (HW.out.trans (hb9.mono HB.out))
      replace HB : Hid (B ≤ v2.heap.size) := Lib.hid (Nat.le_trans HB.out hb9.size)
      clear hb9
      have hc_ := two_act_own HT1.out HBB.out cs Ac nc cc (HRW.out.below HW.out) [] Ax 0 cx HOX.out HDT.out
      rw [HX.out] at hc_
      have Hc_ := Lib.hid hc_
      clear hc_
      go_wp2_with fail
      refine Hc_.out.mono ?_
      rintro en v3 ⟨rfl, S3, hact, hown, hpass, hb9⟩
      clear Hc_ HT1 HBB HOX
      have e3 := ws_one HACT.out hact
      subst e3
      have HX2 : Hid (S3.X.length = 2) := Lib.hid (by rw [hact.len]; exact HX.out)
      have HOX := Lib.hid hown
      have HPASS := Lib.hid hpass
      clear hact hown hpass HACT HX
      replace HW := Lib.hid (HW.out.trans hb9)
      replace HB : Hid (B ≤ v3.heap.size) := Lib.hid (Nat.le_trans HB.out hb9.size)
      clear hb9
      have hc_ := spoil_spo (7, 0, ⟨#[]⟩) (.slice Ax 0 cx) v3 (OwnP.spo HOX.out)
      have Hc_ := Lib.hid hc_
      clear hc_
      go_wp2_with fail
      refine Hc_.out.mono ?_
      rintro en v4 ⟨rfl, ho9, -⟩
      clear Hc_
      have HT4 := Lib.hid (HPASS.out v4 ho9)
      have hb9 := ho9.below HB.out (fun z hz => Nat.le_trans HB1.out (own_ge HOX.out z hz))
      clear ho9 HPASS HOX HB1
      replace HW := Lib.hid (HW.out.trans hb9)
      replace HB : Hid (B ≤ v4.heap.size) := Lib.hid (Nat.le_trans HB.out hb9.size)
      clear hb9
      obtain ⟨Z0, hZ0⟩ : ∃ Z0, v4.heap.size = Z0 := ⟨_, rfl⟩
      have HZ0 := Lib.hid hZ0
      have HBZ : Hid (B ≤ Z0) := Lib.hid (by rw [← hZ0]; exact HB.out)
      have HW4 := HW
      have hc_ := two_revs HT4.out
      rw [hZ0] at hc_
      have Hc_ := Lib.hid hc_
      clear hc_ hZ0
      go_wp2_with fail
      refine Hc_.out.mono ?_
      rintro en v5 ⟨⟨A4, n4, c4⟩, ss4, rfl, hv4, hb9⟩
      clear Hc_
      simp only at hv4
      obtain ⟨L4, hL4⟩ : ∃ L4, S3.s.log.revs = L4 := ⟨_, rfl⟩
      have hn64 : L4.length ≤ 64 := by rw [← hL4]; exact HT4.out.len
      rw [hL4] at hv4
      have hn4 : n4 = L4.length := by
       obtain ⟨A9, c9, e9⟩ := hv4.form
       injection e9
      have hrow := hv4.row
      rw [← hn4] at hrow
      have hspo : ∀ d ∈ ss4, Spo v5 (.slice d.1 d.2.1 d.2.2) ∧ ∀ q, (Value.slice d.1 d.2.1 d.2.2).ownBlock = some q → Z0 ≤ q := fun d hd => by
       obtain ⟨j, hj, rfl⟩ := List.getElem_of_mem hd
       have := (hv4.ds j (by rw [← hv4.len]; exact hj)).1
       exact ⟨OwnP.spo this, fun q hq => own_ge this q hq⟩
      have Hrow := Lib.hid hrow
      have Hlen4 := Lib.hid hv4.len
      have Hblk := Lib.hid (fun d hd => (hspo d hd).2)
      have Hspo : Hid (∀ d ∈ ss4, Spo v5 (.slice d.1 d.2.1 d.2.2)) := Lib.hid (fun d hd => (hspo d hd).1)
      have HC : Hid (Below Z0 v4 v5) := Lib.hid hb9
      have Hn4 := Lib.hid hn4
      have hn4b : n4 ≤ 64 := by omega
      clear hb9 hv4 hrow hspo hn4 hL4 hn64 HW HB
      go_upto_region 16 with (fail)
      obtain ⟨W5, rfl⟩ : ∃ W5, W5 = wr := ⟨_, rfl⟩
      go_loopw [14, 88] (fun x14 iv wr => ∃ (j : Nat), j ≤ n4 ∧ iv = .int .i64 j ∧ Hid (wr.ownsRow Z0 30 3 (.slice A4 n4 c4) n4 (rc L4 ss4)) ∧ Hid (∀ d ∈ ss4, Spo wr (.slice d.1 d.2.1 d.2.2)) ∧ Hid (Below Z0 v4 wr)) (fun _ iv _ => n4 - (intOf iv).toNat)
      case atStart => exact ⟨0, by omega, rfl, Hrow, Hspo, HC⟩
      case round =>
       clear Hrow Hspo HC
       obtain ⟨j, hj, rfl, Hrow, Hspo, HC⟩ := hrel
       by_cases hjt : j < n4
       · skip
         have hjl : j < L4.length := by have := Hn4.out; omega
         have hjs : j < ss4.length := by have := Hlen4.out; omega
         obtain ⟨b4, c4', e4, -⟩ := World.ownsRow.form Hrow.out (by omega)
         injection e4 with e4 e4' e4''
         subst e4
         have hb4l := (World.ownsRow.lt Hrow.out b4 rfl).2
         obtain ⟨q0, qq1, qq2⟩ := rc_at L4 ss4 Hlen4.out j hjl
         have hrl := rc_len L4 ss4 Hlen4.out
         have hj3 : j * 3 + 2 < (rc L4 ss4).length := by rw [hrl]; omega
         have d0 := World.ownsRow.cellAt Hrow.out (j * 3) (by omega)
         have d1 := World.ownsRow.cellAt Hrow.out (j * 3 + 1) (by omega)
         have d2 := World.ownsRow.cellAt Hrow.out (j * 3 + 2) (by omega)
         rw [q0] at d0
         rw [qq1] at d1
         rw [qq2] at d2
         have Hmem := Lib.hid (List.getElem_mem hjs : ss4[j] ∈ ss4)
         obtain ⟨dd, hdd⟩ : ∃ dd, ss4[j] = dd := ⟨_, rfl⟩
         rw [hdd] at d2 Hmem
         obtain ⟨f, hf⟩ : ∃ f, L4[j] = f := ⟨_, rfl⟩
         rw [hf] at d0 d1
         obtain ⟨ya, yb, yd⟩ := f
         obtain ⟨A6, n6, c6⟩ := dd
         simp only at d0 d1 d2
         have hj0 : (0 : Int) ≤ (j : Int) := by omega
         have hjn : (j : Int) < (n4 : Int) := by omega
         clear q0 qq1 qq2 hrl hdd hf e4' e4''
         go_upto_region 18 with (fail)
         have hal := (Below.refl wr.heap.size wr).alloc (Nat.le_refl _) (.cells #[.int .i64 ya, .int .i64 yb, .slice A6 n6 c6] 30)
         have hzs : Z0 ≤ wr.heap.size := by rw [← HZ0.out]; exact HC.out.size
         have hrow6 := own_below Hrow.out hal
         have hspo6 : ∀ d ∈ ss4, Spo (wr.alloc (.cells #[.int .i64 ya, .int .i64 yb, .slice A6 n6 c6] 30)) (.slice d.1 d.2.1 d.2.2) := fun d hd => (Hspo.out d hd).below hal
         have hc6 := HC.out.trans (hal.mono hzs)
         have hzs6 := Nat.le_trans hzs hal.size
         have kz := Blk.new wr 30 #[.int .i64 ya, .int .i64 yb, .slice A6 n6 c6]
         obtain ⟨U6, hU⟩ : ∃ U6, wr.alloc (.cells #[.int .i64 ya, .int .i64 yb, .slice A6 n6 c6] 30) = U6 := ⟨_, rfl⟩
         rw [hU] at hrow6 hspo6 hc6 hzs6 kz ⊢
         obtain ⟨z6, hzz⟩ : ∃ z6, wr.heap.size = z6 := ⟨_, rfl⟩
         rw [hzz] at kz ⊢
         have a2 := kz.cell 2
         have lz := kz.lt
         have Hsp := Lib.hid (spoil_spo (8, 0, ⟨#[]⟩) (.slice A6 n6 c6) U6 (hspo6 _ Hmem.out))
         have Hrow6 := Lib.hid hrow6
         have Hspo6 := Lib.hid hspo6
         have HC6 := Lib.hid hc6
         have Hzs6 := Lib.hid hzs6
         clear d0 d1 d2 hb4l hU hzz hal Hrow Hspo HC hrow6 hspo6 hc6 hzs6 hzs kz
         go_wp2_with fail
         refine Hsp.out.mono ?_
         rintro e w7 ⟨rfl, ho7, hsp7⟩
         have hq7 := Hblk.out _ Hmem.out
         have Hrow7 := Lib.hid (Spo.row (Hspo6.out _ Hmem.out) ho7 Hrow6.out (by decide))
         have Hspo7 : Hid (∀ d ∈ ss4, Spo w7 (.slice d.1 d.2.1 d.2.2)) := Lib.hid fun d hd => hsp7 _ (Hspo6.out d hd)
         have HC7 := Lib.hid (HC6.out.trans (ho7.below Hzs6.out (fun q hq => hq7 q hq)))
         clear ho7 hsp7 hq7 a2 lz Hsp Hrow6 Hspo6 HC6 Hzs6
         go_wp2_with fail
         go_roundw
         case rel => exact ⟨j + 1, by omega, by go_num, Hrow7, Hspo7, HC7⟩
         case measure => simp [intOf]; omega
       · skip
         obtain rfl : j = n4 := by omega
         clear Hrow Hspo Hblk Hlen4 Hn4
         go_upto_region 21 with (fail)
         obtain ⟨W6, rfl⟩ : ∃ W6, W6 = wr := ⟨_, rfl⟩
         go_loopw [15, 16, 17, 97] (fun x15 x16 x17 iv wr => ∃ (i : Nat), i ≤ 2 ∧ iv = .int .i64 i ∧ Hid (Below Z0 v4 wr)) (fun _ _ _ iv _ => 2 - (intOf iv).toNat)
         case atStart => exact ⟨0, by omega, rfl, HC⟩
         case round =>
          clear HC
          obtain ⟨i, hi, rfl, HC⟩ := hrel
          by_cases hit : i < 2
          · skip
            have hi0 : (0 : Int) ≤ (i : Int) := by omega
            have hi2 : (i : Int) < 2 := by omega
            obtain ⟨x, hx⟩ : ∃ x, S3.X[i]? = some x := ⟨_, List.getElem?_eq_getElem (by rw [HX2.out]; exact hit)⟩
            have hb1 : Below v4.heap.size v4 wr := by rw [HZ0.out]; exact HC.out
            have hc_ := two_client (HT4.out.below hb1) hx
            unfold clv clc at hc_
            simp only at hc_
            have Hc_ := Lib.hid hc_
            have hzs : Z0 ≤ wr.heap.size := by rw [← HZ0.out]; exact hb1.size
            have Hzs := Lib.hid hzs
            clear hc_ hx hb1 hzs
            go_wp2_with fail
            refine Hc_.out.mono ?_
            rintro en v6 ⟨A1, n1, c1, A2, n2, c2, rfl, ho1, ho2, hb9⟩
            clear Hc_
            have kz := Blk.new v6 92 #[.int .i64 x.c.who, .int .i64 x.c.rev, .int .i64 x.c.seq, .string x.c.text, .bool x.c.fly, .slice A1 n1 c1, .bool x.c.wait, .slice A2 n2 c2]
            have hal := (Below.refl v6.heap.size v6).alloc (Nat.le_refl _) (.cells #[.int .i64 x.c.who, .int .i64 x.c.rev, .int .i64 x.c.seq, .string x.c.text, .bool x.c.fly, .slice A1 n1 c1, .bool x.c.wait, .slice A2 n2 c2] 92)
            have hc6 := (HC.out.trans (hb9.mono Hzs.out)).trans (hal.mono (Nat.le_trans Hzs.out hb9.size))
            have hs1 := (OwnP.spo ho1).below hal
            have hs2 := (OwnP.spo ho2).below hal
            have g1 : ∀ q, (Value.slice A1 n1 c1).ownBlock = some q → Z0 ≤ q ∧ q < v6.heap.size := fun q hq => ⟨Nat.le_trans Hzs.out (own_ge ho1 q hq), own_lt ho1 q hq⟩
            have g2 : ∀ q, (Value.slice A2 n2 c2).ownBlock = some q → Z0 ≤ q := fun q hq => Nat.le_trans Hzs.out (own_ge ho2 q hq)
            have hzs6 := Nat.le_trans (Nat.le_trans Hzs.out hb9.size) hal.size
            go_upto_region 24 with (fail)
            obtain ⟨gz, hgz⟩ : ∃ gz, v6.heap.size = gz := ⟨_, rfl⟩
            obtain ⟨u1, hu1⟩ : ∃ u1, v6.alloc (.cells #[.int .i64 x.c.who, .int .i64 x.c.rev, .int .i64 x.c.seq, .string x.c.text, .bool x.c.fly, .slice A1 n1 c1, .bool x.c.wait, .slice A2 n2 c2] 92) = u1 := ⟨_, rfl⟩
            rw [hu1] at kz hc6 hs1 hs2 hzs6 ⊢
            rw [hgz] at kz g1 ⊢
            have HK := Lib.hid kz
            have HC6 := Lib.hid hc6
            have HS1 := Lib.hid hs1
            have HS2 := Lib.hid hs2
            have HG1 := Lib.hid g1
            have HG2 := Lib.hid g2
            have HZ6 := Lib.hid hzs6
            have z5 := kz.cell 5
            have lz := kz.lt
            clear kz hal hc6 hs1 hs2 g1 g2 hzs6 hgz hu1 ho1 ho2 hb9 HC Hzs
            have hc_ := spoil_spo (6, 0, ⟨#[]⟩) (.slice A1 n1 c1) u1 HS1.out
            have Hc_ := Lib.hid hc_
            clear hc_
            go_wp2_with fail
            refine Hc_.out.mono ?_
            rintro en v7 ⟨rfl, ho7, hsp7⟩
            clear Hc_ z5 lz
            have HK7 := Lib.hid (HK.out.only ho7 (fun hq => by have := (HG1.out gz hq).2; omega))
            have HC7 := Lib.hid (HC6.out.trans (ho7.below HZ6.out (fun q hq => (HG1.out q hq).1)))
            have HS7 := Lib.hid (hsp7 _ HS2.out)
            have HZ7 := Lib.hid (Nat.le_trans HZ6.out ho7.2.2.2.1)
            have z7 := HK7.out.cell 7
            have lz := HK7.out.lt
            clear HK HC6 HS1 HS2 HG1 HZ6 ho7 hsp7
            have hc_ := spoil_spo (5, 0, ⟨#[]⟩) (.slice A2 n2 c2) v7 HS7.out
            have Hc_ := Lib.hid hc_
            clear hc_
            go_wp2_with fail
            refine Hc_.out.mono ?_
            rintro en v8 ⟨rfl, ho8, -⟩
            clear Hc_ z7 lz
            have HC8 := Lib.hid (HC7.out.trans (ho8.below HZ7.out (fun q hq => HG2.out q hq)))
            clear ho8 HC7 HK7 HS7 HG2 HZ7
            go_wp2_with fail
            go_roundw
            case rel => exact ⟨i + 1, by omega, by go_num, HC8⟩
            case measure => simp [intOf]; omega
          · skip
            obtain rfl : i = 2 := by omega
            have hb1 : Below v4.heap.size v4 wr := by rw [HZ0.out]; exact HC.out
            have HTW := Lib.hid (HT4.out.below hb1)
            have HW := Lib.hid (HW4.out.trans (HC.out.mono HBZ.out))
            have HB : Hid (B ≤ wr.heap.size) := Lib.hid (by have h1 := hb1.size; have h2 := HBZ.out; have h3 := HZ0.out; omega)
            clear hb1 HC HT4
            go_wp2_with fail
            go_roundw
            case rel => exact ⟨k + 1, S3, by omega, by go_num, HTW, HX2, HW, HB⟩
            case measure => simp [intOf]; omega
  · skip
    have hkn : k = nl := by omega
    subst hkn
    go_upto_region 29 with (fail)
    go_loopw [18, 19, 20, 21, 22, 116] (fun x18 x19 x20 x21 x22 iv wr => ∃ (i : Nat), i ≤ 2 ∧ iv = .int .i64 i ∧ Hid (TWo wr B q1 q2 S S) ∧ Hid (Below B w wr) ∧ Hid (B ≤ wr.heap.size)) (fun _ _ _ _ _ iv _ => 2 - (intOf iv).toNat)
    case atStart => exact ⟨0, by omega, rfl, HTW, HW, HB⟩
    case round =>
     clear HTW HW HB
     obtain ⟨i, hi, rfl, HTW, HW, HB⟩ := hrel
     by_cases hit : i < 2
     · skip
       have hi0 : (0 : Int) ≤ (i : Int) := by omega
       have hi2 : (i : Int) < 2 := by omega
       obtain ⟨x, hx⟩ : ∃ x, S.X[i]? = some x := ⟨_, List.getElem?_eq_getElem (by rw [HX.out]; exact hit)⟩
       have hct := ckok_txt (HTW.out.ck hx)
       have HCT := Lib.hid hct
       have HXX := Lib.hid hx
       clear hx hct
       have hc_ := two_client HTW.out HXX.out
       unfold clv clc at hc_
       simp only at hc_
       have Hc_ := Lib.hid hc_
       clear hc_
       go_wp2_with fail
       refine Hc_.out.mono ?_
       rintro en w45 ⟨A1, n1, c1, A2, n2, c2, rfl, ho1, ho2, hb45⟩
       clear Hc_
       have HR1a := Lib.hid (rdS_ ho1 HCT.out.1)
       have HR1b := Lib.hid (rdS_ ho2 HCT.out.2)
       clear ho1 ho2
       replace HTW := Lib.hid (HTW.out.below hb45)
       replace HW := Lib.hid (HW.out.trans (hb45.mono HB.out))
       replace HB : Hid (B ≤ w45.heap.size) := Lib.hid (Nat.le_trans HB.out hb45.size)
       clear hb45
       have kz := Blk.new w45 92 #[.int .i64 x.c.who, .int .i64 x.c.rev, .int .i64 x.c.seq, .string x.c.text, .bool x.c.fly, .slice A1 n1 c1, .bool x.c.wait, .slice A2 n2 c2]
       have hal := (Below.refl w45.heap.size w45).alloc (Nat.le_refl _) (.cells #[.int .i64 x.c.who, .int .i64 x.c.rev, .int .i64 x.c.seq, .string x.c.text, .bool x.c.fly, .slice A1 n1 c1, .bool x.c.wait, .slice A2 n2 c2] 92)
       go_upto_region 32 with (fail)
       obtain ⟨g1, hg1⟩ : ∃ gz, w45.heap.size = gz := ⟨_, rfl⟩
       obtain ⟨u1, hu1⟩ : ∃ u1, w45.alloc (.cells #[.int .i64 x.c.who, .int .i64 x.c.rev, .int .i64 x.c.seq, .string x.c.text, .bool x.c.fly, .slice A1 n1 c1, .bool x.c.wait, .slice A2 n2 c2] 92) = u1 := ⟨_, rfl⟩
       rw [hu1] at kz hal ⊢
       rw [hg1] at kz ⊢
       have HK1 := Lib.hid kz
       clear kz hu1 hg1
       replace HTW := Lib.hid (HTW.out.below hal)
       replace HR1a := Lib.hid (HR1a.out.step hal)
       replace HR1b := Lib.hid (HR1b.out.step hal)
       replace HW := Lib.hid (HW.out.trans (hal.mono HB.out))
       replace HB : Hid (B ≤ u1.heap.size) := Lib.hid (Nat.le_trans HB.out hal.size)
       clear hal
       have hc_ := two_client HTW.out.swap HXX.out
       unfold clv clc at hc_
       simp only at hc_
       have Hc_ := Lib.hid hc_
       clear hc_
       go_wp2_with fail
       refine Hc_.out.mono ?_
       rintro en w46 ⟨A3, n3, c3, A4, n4, c4, rfl, ho1, ho2, hb46⟩
       clear Hc_
       have HR2a := Lib.hid (rdS_ ho1 HCT.out.1)
       have HR2b := Lib.hid (rdS_ ho2 HCT.out.2)
       clear ho1 ho2
       replace HTW := Lib.hid (HTW.out.below hb46)
       replace HR1a := Lib.hid (HR1a.out.step hb46)
       replace HR1b := Lib.hid (HR1b.out.step hb46)
       replace HK1 := Lib.hid (HK1.out.below hb46 HK1.out.lt)
       replace HW := Lib.hid (HW.out.trans (hb46.mono HB.out))
       replace HB : Hid (B ≤ w46.heap.size) := Lib.hid (Nat.le_trans HB.out hb46.size)
       clear hb46
       have kz := Blk.new w46 92 #[.int .i64 x.c.who, .int .i64 x.c.rev, .int .i64 x.c.seq, .string x.c.text, .bool x.c.fly, .slice A3 n3 c3, .bool x.c.wait, .slice A4 n4 c4]
       have hal := (Below.refl w46.heap.size w46).alloc (Nat.le_refl _) (.cells #[.int .i64 x.c.who, .int .i64 x.c.rev, .int .i64 x.c.seq, .string x.c.text, .bool x.c.fly, .slice A3 n3 c3, .bool x.c.wait, .slice A4 n4 c4] 92)
       go_upto_region 33 with (fail)
       obtain ⟨g2, hg2⟩ : ∃ gz, w46.heap.size = gz := ⟨_, rfl⟩
       obtain ⟨u2, hu2⟩ : ∃ u1, w46.alloc (.cells #[.int .i64 x.c.who, .int .i64 x.c.rev, .int .i64 x.c.seq, .string x.c.text, .bool x.c.fly, .slice A3 n3 c3, .bool x.c.wait, .slice A4 n4 c4] 92) = u1 := ⟨_, rfl⟩
       rw [hu2] at kz hal ⊢
       rw [hg2] at kz ⊢
       have HK2 := Lib.hid kz
       clear kz hu2 hg2
       replace HTW := Lib.hid (HTW.out.below hal)
       replace HR1a := Lib.hid (HR1a.out.step hal)
       replace HR1b := Lib.hid (HR1b.out.step hal)
       replace HK1 := Lib.hid (HK1.out.below hal HK1.out.lt)
       replace HR2a := Lib.hid (HR2a.out.step hal)
       replace HR2b := Lib.hid (HR2b.out.step hal)
       replace HW := Lib.hid (HW.out.trans (hal.mono HB.out))
       replace HB : Hid (B ≤ u2.heap.size) := Lib.hid (Nat.le_trans HB.out hal.size)
       clear hal
       have hr1 := client_row HK1.out rfl
       have hr2 := client_row HK2.out rfl
       have HRW1 := Lib.hid hr1
       have HRW2 := Lib.hid hr2
       have hsm := sameclient_true x.c.who x.c.rev x.c.seq x.c.text x.c.fly x.c.wait x.c.sent x.c.held A1 A2 A3 A4 n1 n2 n3 n4 c1 c2 c3 c4 u2 HR1a.out HR1b.out HR2a.out HR2b.out
       have Hsm := Lib.hid hsm
       clear hr1 hr2 hsm
       go_wp2_with (first | (refine wpList_load_blkWo (by simp [Region.wanted, yielded, Act.put]) _ (.tmp 19) rfl g1 rfl _ HRW1.out ?_) | (refine wpList_load_blkWo (by simp [Region.wanted, yielded, Act.put]) _ (.tmp 21) rfl g2 rfl _ HRW2.out ?_))
       refine Hsm.out.mono ?_
       rintro en w9 ⟨rfl, hb9⟩
       clear Hsm HRW1 HRW2
       replace HTW := Lib.hid (HTW.out.below hb9)
       replace HR1a := Lib.hid (HR1a.out.step hb9)
       replace HR1b := Lib.hid (HR1b.out.step hb9)
       replace HK1 := Lib.hid (HK1.out.below hb9 HK1.out.lt)
       replace HR2a := Lib.hid (HR2a.out.step hb9)
       replace HR2b := Lib.hid (HR2b.out.step hb9)
       replace HK2 := Lib.hid (HK2.out.below hb9 HK2.out.lt)
       replace HW := Lib.hid (HW.out.trans (hb9.mono HB.out))
       replace HB : Hid (B ≤ w9.heap.size) := Lib.hid (Nat.le_trans HB.out hb9.size)
       clear hb9
       go_wp2_with fail
       go_roundw
       case rel => exact ⟨i + 1, by omega, by go_num, HTW, HW, HB⟩
       case measure => simp [intOf]; omega
     · skip
       obtain rfl : i = 2 := by omega
       have hc_ := two_revs HTW.out
       have Hc_ := Lib.hid hc_
       clear hc_
       go_wp2_with fail
       refine Hc_.out.mono ?_
       rintro en w45 ⟨⟨Aw, nw, cw⟩, ssw, rfl, how, hb45⟩
       clear Hc_
       replace HTW := Lib.hid (HTW.out.below hb45)
       replace HW := Lib.hid (HW.out.trans (hb45.mono HB.out))
       replace HB : Hid (B ≤ w45.heap.size) := Lib.hid (Nat.le_trans HB.out hb45.size)
       clear hb45
       simp only at how
       have HV1 := Lib.hid (how.base (Nat.zero_le _))
       clear how
       have hc_ := two_revs HTW.out.swap
       have Hc_ := Lib.hid hc_
       clear hc_
       go_wp2_with fail
       refine Hc_.out.mono ?_
       rintro en w46 ⟨⟨Aw2, nw2, cw2⟩, ssw2, rfl, how, hb46⟩
       clear Hc_
       replace HTW := Lib.hid (HTW.out.below hb46)
       replace HV1 := Lib.hid (HV1.out.below hb46)
       replace HW := Lib.hid (HW.out.trans (hb46.mono HB.out))
       replace HB : Hid (B ≤ w46.heap.size) := Lib.hid (Nat.le_trans HB.out hb46.size)
       clear hb46
       simp only at how
       have HV2 := Lib.hid (how.base (Nat.zero_le _))
       clear how
       have hc_ := samerevs_true S.s.log.revs Aw Aw2 nw nw2 cw cw2 w46 HV1.out.rd HV2.out.rd
       have Hc_ := Lib.hid hc_
       clear hc_
       go_wp2_with fail
       refine Hc_.out.mono ?_
       rintro en w47 ⟨rfl, hb47⟩
       clear Hc_
       replace HTW := Lib.hid (HTW.out.below hb47)
       replace HV1 := Lib.hid (HV1.out.below hb47)
       replace HV2 := Lib.hid (HV2.out.below hb47)
       replace HW := Lib.hid (HW.out.trans (hb47.mono HB.out))
       replace HB : Hid (B ≤ w47.heap.size) := Lib.hid (Nat.le_trans HB.out hb47.size)
       clear hb47
       go_wp2_with fail
       go_ret
       exact ⟨rfl, HBw.out ▸ HW.out⟩
end Go.Proofs.Ytokngfinnieccaa
