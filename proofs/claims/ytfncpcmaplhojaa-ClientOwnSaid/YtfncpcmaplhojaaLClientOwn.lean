/- ClientOwn: the walk. What it sent, told back, changes its text no more; what it held is on its way then. -/
import Derived.Test.YtfncpcmaplhojaaHand
import Derived.Test.YtfncpcmaplhojaaFirst
import Derived.Test.YtfncpcmaplhojaaOpenParts
namespace Go.Proofs.Ytfncpcmaplhojaa
open Go.ChangeShapes Go.WideShapes Go.RowKit
set_option linter.unusedVariables false
set_option linter.unusedSimpArgs false
set_option maxRecDepth 100000
set_option maxHeartbeats 4000000


theorem clientOwn_err (s : ByteArray) (d f : List Pt) (A A' : Option Addr) (n n' cp cp' : Nat) (w : World) (hd : RdP w w.heap.size A n cp d) (hf : RdP w w.heap.size A' n' cp' f) (hss : s.size ≤ 140737488351232) (he : doE d s ≠ 0) :
    Calls Try.prog 7 #[.string s, .slice A n cp, .slice A' n' cp'] w fun e w' => e = .returned (.bool true) ∧ Below w.heap.size w w' := by
  have Hd := Lib.hid hd
  have Hf := Lib.hid hf
  clear hd hf
  obtain ⟨g, hbase⟩ : ∃ g, w.heap.size = g := ⟨_, rfl⟩
  have hb : Below g w w := Below.refl _ _
  have hsz : g ≤ w.heap.size := by omega
  rw [hbase]
  go_enter Try.func7, Try.ntmps7
  go_upto_region 1 with (fail)
  have Hd := Lib.hid (hbase ▸ Hd.out)
  have Hf := Lib.hid (hbase ▸ Hf.out)
  go_wp2_with fail
  have hc := put_any ⟨#[97]⟩ (by decide) w
  refine hc.mono ?_
  clear hc
  rintro e v1 ⟨Ap, rfl, hrp, hv1⟩
  replace hb := hb.trans (hv1.mono hsz)
  replace hsz : g ≤ v1.heap.size := Nat.le_trans hsz hv1.size
  clear hv1
  have Hp := Lib.hid hrp
  clear hrp
  go_wp2_with fail
  have hc := all_any 1 v1
  rw [show allL 1 = [(1, 1, emp)] from rfl] at hc
  refine hc.mono ?_
  clear hc
  rintro e v2 ⟨Ak, ck, rfl, hrk, hv2⟩
  replace Hp := Lib.hid (RdP.step Hp.out hv2)
  replace hb := hb.trans (hv2.mono hsz)
  replace hsz : g ≤ v2.heap.size := Nat.le_trans hsz hv2.size
  clear hv2
  have Hk := Lib.hid hrk
  clear hrk
  go_wp2_with fail
  have hc := hand_ok ⟨#[]⟩ [(2, 0, ⟨#[97]⟩)] [(1, 1, emp)] Ap Ak 1 1 1 ck v2 Hp.out Hk.out (by decide) (by decide)
  rw [show hC ⟨#[]⟩ [(2, 0, ⟨#[97]⟩)] [(1, 1, emp)] = ⟨1, 5, 4, ⟨#[97]⟩, true, [(2, 0, ⟨#[97]⟩)], true, [(1, 1, emp)]⟩ from rfl] at hc
  refine hc.mono ?_
  clear hc
  rintro e va ⟨sa, ha, rfl, -, -, hva⟩
  replace Hp := Lib.hid (RdP.step Hp.out hva)
  replace Hk := Lib.hid (RdP.step Hk.out hva)
  replace hb := hb.trans (hva.mono hsz)
  replace hsz : g ≤ va.heap.size := Nat.le_trans hsz hva.size
  clear hva
  clear Hp Hk
  unfold clv clc
  simp only
  go_upto_region 2 with (fail)
  have ko := Blk.new va 52 #[.int .i64 1, .int .i64 5, .int .i64 4, .string ⟨#[97]⟩, .bool true, .slice sa.1 sa.2.1 sa.2.2, .bool true, .slice ha.1 ha.2.1 ha.2.2]
  replace hb := hb.alloc hsz (.cells #[.int .i64 1, .int .i64 5, .int .i64 4, .string ⟨#[97]⟩, .bool true, .slice sa.1 sa.2.1 sa.2.2, .bool true, .slice ha.1 ha.2.1 ha.2.2] 52)
  have hs3 : (va.alloc (.cells #[.int .i64 1, .int .i64 5, .int .i64 4, .string ⟨#[97]⟩, .bool true, .slice sa.1 sa.2.1 sa.2.2, .bool true, .slice ha.1 ha.2.1 ha.2.2] 52)).heap.size = va.heap.size + 1 := by simp
  generalize (va.alloc (.cells #[.int .i64 1, .int .i64 5, .int .i64 4, .string ⟨#[97]⟩, .bool true, .slice sa.1 sa.2.1 sa.2.2, .bool true, .slice ha.1 ha.2.1 ha.2.2] 52)) = U3 at *
  obtain ⟨b, heb⟩ : ∃ b, va.heap.size = b := ⟨_, rfl⟩
  rw [heb] at ko ⊢
  have nb3 : g ≤ b := by omega
  replace hsz : g ≤ U3.heap.size := by omega
  have lo := ko.lt
  have co_0 := ko.cell 0
  have co_3 := ko.cell 3
  go_upto_region 4 with (fail)
  clear co_0 co_3
  go_wp2_with fail
  refine (hand_err s d f A A' n n' cp cp' U3 ((Hd.out.below hb).more hsz) ((Hf.out.below hb).more hsz) hss he).mono ?_
  rintro e v1 ⟨rfl, hv1⟩
  replace ko := ko.below hv1 ko.lt
  replace lo := ko.lt
  replace hb := hb.trans (hv1.mono hsz)
  replace hsz : g ≤ v1.heap.size := Nat.le_trans hsz hv1.size
  clear hv1
  unfold clv clc
  simp only
  go_upto_region 6 with (first | (refine wpList_store_blk rfl _ (.tmp 7) (.tmp 38) rfl b #[.int .i64 0, .int .i64 0, .int .i64 0, .string ⟨#[]⟩, .bool false, .slice none 0 0, .bool false, .slice none 0 0] rfl rfl _ _ ko client_info rfl (by simp [Value.oneCell']) ?_))
  have ho5 := Only.setRow v1 b #[.int .i64 0, .int .i64 0, .int .i64 0, .string ⟨#[]⟩, .bool false, .slice none 0 0, .bool false, .slice none 0 0]
  replace ko := ko.row #[.int .i64 0, .int .i64 0, .int .i64 0, .string ⟨#[]⟩, .bool false, .slice none 0 0, .bool false, .slice none 0 0]
  replace hb := below_setRow hb b #[.int .i64 0, .int .i64 0, .int .i64 0, .string ⟨#[]⟩, .bool false, .slice none 0 0, .bool false, .slice none 0 0] (by omega)
  have hs5 : (v1.setRow b #[.int .i64 0, .int .i64 0, .int .i64 0, .string ⟨#[]⟩, .bool false, .slice none 0 0, .bool false, .slice none 0 0]).heap.size = v1.heap.size := by simp
  generalize (v1.setRow b #[.int .i64 0, .int .i64 0, .int .i64 0, .string ⟨#[]⟩, .bool false, .slice none 0 0, .bool false, .slice none 0 0]) = U5 at *
  replace hsz : g ≤ U5.heap.size := by omega
  replace lo := ko.lt
  go_wp2_with fail
  go_ret
  exact ⟨rfl, hbase ▸ hb⟩
theorem clientOwn_idle (s : ByteArray) (d f : List Pt) (A A' : Option Addr) (n n' cp cp' : Nat) (w : World) (hd : RdP w w.heap.size A n cp d) (hf : RdP w w.heap.size A' n' cp' f) (hss : s.size ≤ 140737488351232) (he : doE d s = 0) (hw : (hC s d f).wait = false) :
    Calls Try.prog 7 #[.string s, .slice A n cp, .slice A' n' cp'] w fun e w' => e = .returned (.bool true) ∧ Below w.heap.size w w' := by
  obtain ⟨k1, k2, k3, k4, k5, k6⟩ := hC_ok (f := f) he
  obtain ⟨C1, hC1⟩ : ∃ C1, hC s d f = C1 := ⟨_, rfl⟩
  rw [hC1] at k1 k2 k3 k4 k5 k6 hw
  have m1 := ckok_own k1 k6 (by omega) (fun _ => by omega)
  obtain ⟨C2, hC2⟩ : ∃ C2, inO C1 = C2 := ⟨_, rfl⟩
  rw [hC2] at m1
  have r6 : C2.rev = 6 := by rw [← hC2]; simp [inO, k4]
  have r7 : C2.fly = false := by rw [← hC2]; exact hw
  have r8 : C2.wait = false := by rw [← hC2]; rfl
  have r9 : C2.text = C1.text := by rw [← hC2]; rfl
  have r10 : C2.sent = C1.held := by rw [← hC2]; rfl
  have r11 : C2.seq = C1.seq := by rw [← hC2]; simp [inO, hw]
  have hsk := (k1.sk k6).1
  have M1 := Lib.hid m1
  have R6 := Lib.hid r6
  have R7 := Lib.hid r7
  have R8 := Lib.hid r8
  have R9 := Lib.hid r9
  have R10 := Lib.hid r10
  have R11 := Lib.hid r11
  have HC2 := Lib.hid hC2
  have HSk := Lib.hid hsk
  have HW := Lib.hid hw
  clear m1 r6 r7 r8 r9 r10 r11 hC2 hsk hw
  have K1 := Lib.hid k1
  have K3 := Lib.hid k3
  have K4 := Lib.hid k4
  have K5 := Lib.hid k5
  have K6 := Lib.hid k6
  have HC1 := Lib.hid hC1
  have He := Lib.hid he
  obtain ⟨j1, j2⟩ := ckok_len k1
  obtain ⟨j3, j4⟩ := ckok_txt k1
  clear k1 k2 k3 k4 k5 k6 hC1 he
  have Hd := Lib.hid hd
  have Hf := Lib.hid hf
  clear hd hf
  obtain ⟨g, hbase⟩ : ∃ g, w.heap.size = g := ⟨_, rfl⟩
  have hb : Below g w w := Below.refl _ _
  have hsz : g ≤ w.heap.size := by omega
  rw [hbase]
  go_enter Try.func7, Try.ntmps7
  go_upto_region 1 with (fail)
  have Hd := Lib.hid (hbase ▸ Hd.out)
  have Hf := Lib.hid (hbase ▸ Hf.out)
  go_wp2_with fail
  have hc := put_any ⟨#[97]⟩ (by decide) w
  refine hc.mono ?_
  clear hc
  rintro e v1 ⟨Ap, rfl, hrp, hv1⟩
  replace hb := hb.trans (hv1.mono hsz)
  replace hsz : g ≤ v1.heap.size := Nat.le_trans hsz hv1.size
  clear hv1
  have Hp := Lib.hid hrp
  clear hrp
  go_wp2_with fail
  have hc := all_any 1 v1
  rw [show allL 1 = [(1, 1, emp)] from rfl] at hc
  refine hc.mono ?_
  clear hc
  rintro e v2 ⟨Ak, ck, rfl, hrk, hv2⟩
  replace Hp := Lib.hid (RdP.step Hp.out hv2)
  replace hb := hb.trans (hv2.mono hsz)
  replace hsz : g ≤ v2.heap.size := Nat.le_trans hsz hv2.size
  clear hv2
  have Hk := Lib.hid hrk
  clear hrk
  go_wp2_with fail
  have hc := hand_ok ⟨#[]⟩ [(2, 0, ⟨#[97]⟩)] [(1, 1, emp)] Ap Ak 1 1 1 ck v2 Hp.out Hk.out (by decide) (by decide)
  rw [show hC ⟨#[]⟩ [(2, 0, ⟨#[97]⟩)] [(1, 1, emp)] = ⟨1, 5, 4, ⟨#[97]⟩, true, [(2, 0, ⟨#[97]⟩)], true, [(1, 1, emp)]⟩ from rfl] at hc
  refine hc.mono ?_
  clear hc
  rintro e va ⟨sa, ha, rfl, -, -, hva⟩
  replace Hp := Lib.hid (RdP.step Hp.out hva)
  replace Hk := Lib.hid (RdP.step Hk.out hva)
  replace hb := hb.trans (hva.mono hsz)
  replace hsz : g ≤ va.heap.size := Nat.le_trans hsz hva.size
  clear hva
  clear Hp Hk
  unfold clv clc
  simp only
  go_upto_region 2 with (fail)
  have ko := Blk.new va 52 #[.int .i64 1, .int .i64 5, .int .i64 4, .string ⟨#[97]⟩, .bool true, .slice sa.1 sa.2.1 sa.2.2, .bool true, .slice ha.1 ha.2.1 ha.2.2]
  replace hb := hb.alloc hsz (.cells #[.int .i64 1, .int .i64 5, .int .i64 4, .string ⟨#[97]⟩, .bool true, .slice sa.1 sa.2.1 sa.2.2, .bool true, .slice ha.1 ha.2.1 ha.2.2] 52)
  have hs3 : (va.alloc (.cells #[.int .i64 1, .int .i64 5, .int .i64 4, .string ⟨#[97]⟩, .bool true, .slice sa.1 sa.2.1 sa.2.2, .bool true, .slice ha.1 ha.2.1 ha.2.2] 52)).heap.size = va.heap.size + 1 := by simp
  generalize (va.alloc (.cells #[.int .i64 1, .int .i64 5, .int .i64 4, .string ⟨#[97]⟩, .bool true, .slice sa.1 sa.2.1 sa.2.2, .bool true, .slice ha.1 ha.2.1 ha.2.2] 52)) = U3 at *
  obtain ⟨b, heb⟩ : ∃ b, va.heap.size = b := ⟨_, rfl⟩
  rw [heb] at ko ⊢
  have nb3 : g ≤ b := by omega
  replace hsz : g ≤ U3.heap.size := by omega
  have lo := ko.lt
  have co_0 := ko.cell 0
  have co_3 := ko.cell 3
  go_upto_region 4 with (fail)
  clear co_0 co_3
  go_wp2_with fail
  have hc := hand_ok s d f A A' n n' cp cp' U3 ((Hd.out.below hb).more hsz) ((Hf.out.below hb).more hsz) hss He.out
  rw [HC1.out] at hc
  refine hc.mono ?_
  clear hc
  rintro e v1 ⟨s1, h1, rfl, q1, q2, hv1⟩
  replace ko := ko.below hv1 ko.lt
  replace lo := ko.lt
  replace hb := hb.trans (hv1.mono hsz)
  replace hsz : g ≤ v1.heap.size := Nat.le_trans hsz hv1.size
  clear hv1
  have oS := Lib.hid q1
  have oH := Lib.hid q2
  clear q1 q2
  unfold clv clc
  simp only
  go_upto_region 7 with (first | (refine wpList_store_blk rfl _ (.tmp 7) (.tmp 38) rfl b #[.int .i64 C1.who, .int .i64 C1.rev, .int .i64 C1.seq, .string C1.text, .bool C1.fly, .slice s1.1 s1.2.1 s1.2.2, .bool C1.wait, .slice h1.1 h1.2.1 h1.2.2] rfl rfl _ _ ko client_info rfl (by simp [Value.oneCell']) ?_))
  have ho4 := Only.setRow v1 b #[.int .i64 C1.who, .int .i64 C1.rev, .int .i64 C1.seq, .string C1.text, .bool C1.fly, .slice s1.1 s1.2.1 s1.2.2, .bool C1.wait, .slice h1.1 h1.2.1 h1.2.2]
  replace oS := Lib.hid (own_only oS.out ho4 (fun k hk h_ => by rcases h_ with rfl; exact own_blk_ne oS.out ko (by decide) hk))
  replace oH := Lib.hid (own_only oH.out ho4 (fun k hk h_ => by rcases h_ with rfl; exact own_blk_ne oH.out ko (by decide) hk))
  replace ko := ko.row #[.int .i64 C1.who, .int .i64 C1.rev, .int .i64 C1.seq, .string C1.text, .bool C1.fly, .slice s1.1 s1.2.1 s1.2.2, .bool C1.wait, .slice h1.1 h1.2.1 h1.2.2]
  replace hb := below_setRow hb b #[.int .i64 C1.who, .int .i64 C1.rev, .int .i64 C1.seq, .string C1.text, .bool C1.fly, .slice s1.1 s1.2.1 s1.2.2, .bool C1.wait, .slice h1.1 h1.2.1 h1.2.2] (by omega)
  have hs4 : (v1.setRow b #[.int .i64 C1.who, .int .i64 C1.rev, .int .i64 C1.seq, .string C1.text, .bool C1.fly, .slice s1.1 s1.2.1 s1.2.2, .bool C1.wait, .slice h1.1 h1.2.1 h1.2.2]).heap.size = v1.heap.size := by simp
  generalize (v1.setRow b #[.int .i64 C1.who, .int .i64 C1.rev, .int .i64 C1.seq, .string C1.text, .bool C1.fly, .slice s1.1 s1.2.1 s1.2.2, .bool C1.wait, .slice h1.1 h1.2.1 h1.2.2]) = U4 at *
  replace hsz : g ≤ U4.heap.size := by omega
  replace lo := ko.lt
  have rS := rdS_ oS.out j3
  have rH := rdS_ oH.out j4
  go_wp2_with (first | (refine wpList_load_blk rfl _ (.tmp 7) rfl b rfl _ (client_row ko rfl) ?_))
  have hc := cout_good C1 s1 h1 U4 K1.out rS rH (by have := rS.1; omega) K6.out
  refine hc.mono ?_
  clear hc rS rH
  rintro e v2 ⟨d1, rfl, q1, hv2⟩
  replace ko := ko.below hv2 ko.lt
  replace lo := ko.lt
  replace oS := Lib.hid (own_below oS.out hv2)
  replace oH := Lib.hid (own_below oH.out hv2)
  replace hb := hb.trans (hv2.mono hsz)
  replace hsz : g ≤ v2.heap.size := Nat.le_trans hsz hv2.size
  clear hv2
  have oD := Lib.hid q1
  clear q1
  unfold mgv
  simp only
  go_upto_region 8 with (fail)
  replace ko := ko.alloc (.cells #[.int .i64 C1.rev, .int .i64 C1.who, .int .i64 C1.seq, .slice d1.1 d1.2.1 d1.2.2] 58)
  have km := Blk.new v2 58 #[.int .i64 C1.rev, .int .i64 C1.who, .int .i64 C1.seq, .slice d1.1 d1.2.1 d1.2.2]
  replace oS := Lib.hid (World.ownsRow.alloc oS.out (.cells #[.int .i64 C1.rev, .int .i64 C1.who, .int .i64 C1.seq, .slice d1.1 d1.2.1 d1.2.2] 58))
  replace oH := Lib.hid (World.ownsRow.alloc oH.out (.cells #[.int .i64 C1.rev, .int .i64 C1.who, .int .i64 C1.seq, .slice d1.1 d1.2.1 d1.2.2] 58))
  replace oD := Lib.hid (World.ownsRow.alloc oD.out (.cells #[.int .i64 C1.rev, .int .i64 C1.who, .int .i64 C1.seq, .slice d1.1 d1.2.1 d1.2.2] 58))
  replace hb := hb.alloc hsz (.cells #[.int .i64 C1.rev, .int .i64 C1.who, .int .i64 C1.seq, .slice d1.1 d1.2.1 d1.2.2] 58)
  have hs5 : (v2.alloc (.cells #[.int .i64 C1.rev, .int .i64 C1.who, .int .i64 C1.seq, .slice d1.1 d1.2.1 d1.2.2] 58)).heap.size = v2.heap.size + 1 := by simp
  generalize (v2.alloc (.cells #[.int .i64 C1.rev, .int .i64 C1.who, .int .i64 C1.seq, .slice d1.1 d1.2.1 d1.2.2] 58)) = U5 at *
  obtain ⟨m, hem⟩ : ∃ m, v2.heap.size = m := ⟨_, rfl⟩
  rw [hem] at km ⊢
  have nb5 : g ≤ m := by omega
  replace hsz : g ≤ U5.heap.size := by omega
  have nq5_o : b < m := by omega
  have lm := km.lt
  go_upto_region 10 with (fail)
  have rS := rdS_ oS.out j3
  have rH := rdS_ oH.out j4
  have rD := rdS_ oD.out j3
  go_wp2_with (first | (refine wpList_load_blk rfl _ (.tmp 7) rfl b rfl _ (client_row ko rfl) ?_) | (refine wpList_load_blk rfl _ (.tmp 9) rfl m rfl _ (msg_row km rfl) ?_))
  have hc := cin_own C1 s1 h1 C1.sent d1.1 d1.2.1 d1.2.2 U5 K1.out rS rH rD (by have := rS.1; omega) (by have := rH.1; omega) (by rw [K4.out]; decide) HSk.out K6.out (fun _ => by rw [K5.out]; decide)
  rw [HC2.out] at hc
  refine hc.mono ?_
  clear hc rS rH rD
  rintro e v3 ⟨s2, h2, rfl, q1, q2, hv3⟩
  replace ko := ko.below hv3 ko.lt
  replace lo := ko.lt
  replace km := km.below hv3 km.lt
  replace lm := km.lt
  replace oS := Lib.hid (own_below oS.out hv3)
  replace oH := Lib.hid (own_below oH.out hv3)
  replace oD := Lib.hid (own_below oD.out hv3)
  replace hb := hb.trans (hv3.mono hsz)
  replace hsz : g ≤ v3.heap.size := Nat.le_trans hsz hv3.size
  clear hv3
  have oX := Lib.hid q1
  have oY := Lib.hid q2
  clear q1 q2
  unfold clv clc
  simp only
  go_upto_region 11 with (fail)
  replace ko := ko.alloc (.cells #[.int .i64 C2.who, .int .i64 C2.rev, .int .i64 C2.seq, .string C2.text, .bool C2.fly, .slice s2.1 s2.2.1 s2.2.2, .bool C2.wait, .slice h2.1 h2.2.1 h2.2.2] 52)
  replace km := km.alloc (.cells #[.int .i64 C2.who, .int .i64 C2.rev, .int .i64 C2.seq, .string C2.text, .bool C2.fly, .slice s2.1 s2.2.1 s2.2.2, .bool C2.wait, .slice h2.1 h2.2.1 h2.2.2] 52)
  have kx := Blk.new v3 52 #[.int .i64 C2.who, .int .i64 C2.rev, .int .i64 C2.seq, .string C2.text, .bool C2.fly, .slice s2.1 s2.2.1 s2.2.2, .bool C2.wait, .slice h2.1 h2.2.1 h2.2.2]
  replace oS := Lib.hid (World.ownsRow.alloc oS.out (.cells #[.int .i64 C2.who, .int .i64 C2.rev, .int .i64 C2.seq, .string C2.text, .bool C2.fly, .slice s2.1 s2.2.1 s2.2.2, .bool C2.wait, .slice h2.1 h2.2.1 h2.2.2] 52))
  replace oH := Lib.hid (World.ownsRow.alloc oH.out (.cells #[.int .i64 C2.who, .int .i64 C2.rev, .int .i64 C2.seq, .string C2.text, .bool C2.fly, .slice s2.1 s2.2.1 s2.2.2, .bool C2.wait, .slice h2.1 h2.2.1 h2.2.2] 52))
  replace oD := Lib.hid (World.ownsRow.alloc oD.out (.cells #[.int .i64 C2.who, .int .i64 C2.rev, .int .i64 C2.seq, .string C2.text, .bool C2.fly, .slice s2.1 s2.2.1 s2.2.2, .bool C2.wait, .slice h2.1 h2.2.1 h2.2.2] 52))
  replace oX := Lib.hid (World.ownsRow.alloc oX.out (.cells #[.int .i64 C2.who, .int .i64 C2.rev, .int .i64 C2.seq, .string C2.text, .bool C2.fly, .slice s2.1 s2.2.1 s2.2.2, .bool C2.wait, .slice h2.1 h2.2.1 h2.2.2] 52))
  replace oY := Lib.hid (World.ownsRow.alloc oY.out (.cells #[.int .i64 C2.who, .int .i64 C2.rev, .int .i64 C2.seq, .string C2.text, .bool C2.fly, .slice s2.1 s2.2.1 s2.2.2, .bool C2.wait, .slice h2.1 h2.2.1 h2.2.2] 52))
  replace hb := hb.alloc hsz (.cells #[.int .i64 C2.who, .int .i64 C2.rev, .int .i64 C2.seq, .string C2.text, .bool C2.fly, .slice s2.1 s2.2.1 s2.2.2, .bool C2.wait, .slice h2.1 h2.2.1 h2.2.2] 52)
  have hs6 : (v3.alloc (.cells #[.int .i64 C2.who, .int .i64 C2.rev, .int .i64 C2.seq, .string C2.text, .bool C2.fly, .slice s2.1 s2.2.1 s2.2.2, .bool C2.wait, .slice h2.1 h2.2.1 h2.2.2] 52)).heap.size = v3.heap.size + 1 := by simp
  generalize (v3.alloc (.cells #[.int .i64 C2.who, .int .i64 C2.rev, .int .i64 C2.seq, .string C2.text, .bool C2.fly, .slice s2.1 s2.2.1 s2.2.2, .bool C2.wait, .slice h2.1 h2.2.1 h2.2.2] 52)) = U6 at *
  obtain ⟨x, hex⟩ : ∃ x, v3.heap.size = x := ⟨_, rfl⟩
  rw [hex] at kx ⊢
  have nb6 : g ≤ x := by omega
  replace hsz : g ≤ U6.heap.size := by omega
  have nq6_o : b < x := by omega
  have nq6_m : m < x := by omega
  have lx := kx.lt
  obtain ⟨i1, i2⟩ := ckok_len M1.out
  obtain ⟨i3, i4⟩ := ckok_txt M1.out
  have r6 := R6.out
  have r7 := R7.out
  have r8 := R8.out
  have r9 := R9.out
  have hw := HW.out
  have cx_0 := kx.cell 0
  have cx_1 := kx.cell 1
  have cx_2 := kx.cell 2
  have cx_3 := kx.cell 3
  have cx_4 := kx.cell 4
  have cx_5 := kx.cell 5
  have cx_6 := kx.cell 6
  have cx_7 := kx.cell 7
  have co_3 := ko.cell 3
  have co_6 := ko.cell 6
  go_wp2_with fail
  have hc := ccheck_good C2 s2 h2 U6 M1.out (rdS_ oX.out i3) (rdS_ oY.out i4)
  unfold clv clc at hc
  simp only [R6.out, R7.out, R8.out, R9.out] at hc
  clear cx_0 cx_1 cx_2 cx_3 cx_4 cx_5 cx_6 cx_7 co_3 co_6
  refine (hc).mono ?_
  rintro e v7 ⟨rfl, hv7⟩
  replace ko := ko.below hv7 ko.lt
  replace lo := ko.lt
  replace km := km.below hv7 km.lt
  replace lm := km.lt
  replace kx := kx.below hv7 kx.lt
  replace lx := kx.lt
  replace oS := Lib.hid (own_below oS.out hv7)
  replace oH := Lib.hid (own_below oH.out hv7)
  replace oD := Lib.hid (own_below oD.out hv7)
  replace oX := Lib.hid (own_below oX.out hv7)
  replace oY := Lib.hid (own_below oY.out hv7)
  replace hb := hb.trans (hv7.mono hsz)
  replace hsz : g ≤ v7.heap.size := Nat.le_trans hsz hv7.size
  clear hv7
  clear hc
  have cx_4 := kx.cell 4
  go_upto_region 14 with (fail)
  clear cx_4
  clear r6 r7 r8 r9 hw
  go_wp2_with (first | (refine wpList_load_blk rfl _ (.tmp 11) rfl x rfl _ (client_row kx rfl) ?_))
  have hc := cout_none C2 s2 h2 v7 M1.out (rdS_ oX.out i3) (rdS_ oY.out i4) (by have := (rdS_ oX.out i3).1; omega) R7.out
  refine hc.mono ?_
  clear hc
  rintro e v4 ⟨rfl, hv4⟩
  replace ko := ko.below hv4 ko.lt
  replace lo := ko.lt
  replace km := km.below hv4 km.lt
  replace lm := km.lt
  replace kx := kx.below hv4 kx.lt
  replace lx := kx.lt
  replace oS := Lib.hid (own_below oS.out hv4)
  replace oH := Lib.hid (own_below oH.out hv4)
  replace oD := Lib.hid (own_below oD.out hv4)
  replace oX := Lib.hid (own_below oX.out hv4)
  replace oY := Lib.hid (own_below oY.out hv4)
  replace hb := hb.trans (hv4.mono hsz)
  replace hsz : g ≤ v4.heap.size := Nat.le_trans hsz hv4.size
  clear hv4
  unfold mgv
  simp only
  go_wp2_with fail
  have hz := hb.alloc hsz (.cells #[.int .i64 0, .int .i64 0, .int .i64 0, .slice none 0 0] 58)
  go_ret
  exact ⟨rfl, hbase ▸ hz⟩
theorem clientOwn_held (s : ByteArray) (d f : List Pt) (A A' : Option Addr) (n n' cp cp' : Nat) (w : World) (hd : RdP w w.heap.size A n cp d) (hf : RdP w w.heap.size A' n' cp' f) (hss : s.size ≤ 140737488351232) (he : doE d s = 0) (hw : (hC s d f).wait = true) :
    Calls Try.prog 7 #[.string s, .slice A n cp, .slice A' n' cp'] w fun e w' => e = .returned (.bool true) ∧ Below w.heap.size w w' := by
  obtain ⟨k1, k2, k3, k4, k5, k6⟩ := hC_ok (f := f) he
  obtain ⟨C1, hC1⟩ : ∃ C1, hC s d f = C1 := ⟨_, rfl⟩
  rw [hC1] at k1 k2 k3 k4 k5 k6 hw
  have m1 := ckok_own k1 k6 (by omega) (fun _ => by omega)
  obtain ⟨C2, hC2⟩ : ∃ C2, inO C1 = C2 := ⟨_, rfl⟩
  rw [hC2] at m1
  have r6 : C2.rev = 6 := by rw [← hC2]; simp [inO, k4]
  have r7 : C2.fly = true := by rw [← hC2]; exact hw
  have r8 : C2.wait = false := by rw [← hC2]; rfl
  have r9 : C2.text = C1.text := by rw [← hC2]; rfl
  have r10 : C2.sent = C1.held := by rw [← hC2]; rfl
  have r11 : C2.seq = C1.seq + 1 := by rw [← hC2]; simp [inO, hw]
  have hsk := (k1.sk k6).1
  have M1 := Lib.hid m1
  have R6 := Lib.hid r6
  have R7 := Lib.hid r7
  have R8 := Lib.hid r8
  have R9 := Lib.hid r9
  have R10 := Lib.hid r10
  have R11 := Lib.hid r11
  have HC2 := Lib.hid hC2
  have HSk := Lib.hid hsk
  have HW := Lib.hid hw
  clear m1 r6 r7 r8 r9 r10 r11 hC2 hsk hw
  have K1 := Lib.hid k1
  have K3 := Lib.hid k3
  have K4 := Lib.hid k4
  have K5 := Lib.hid k5
  have K6 := Lib.hid k6
  have HC1 := Lib.hid hC1
  have He := Lib.hid he
  obtain ⟨j1, j2⟩ := ckok_len k1
  obtain ⟨j3, j4⟩ := ckok_txt k1
  clear k1 k2 k3 k4 k5 k6 hC1 he
  have Hd := Lib.hid hd
  have Hf := Lib.hid hf
  clear hd hf
  obtain ⟨g, hbase⟩ : ∃ g, w.heap.size = g := ⟨_, rfl⟩
  have hb : Below g w w := Below.refl _ _
  have hsz : g ≤ w.heap.size := by omega
  rw [hbase]
  go_enter Try.func7, Try.ntmps7
  go_upto_region 1 with (fail)
  have Hd := Lib.hid (hbase ▸ Hd.out)
  have Hf := Lib.hid (hbase ▸ Hf.out)
  go_wp2_with fail
  have hc := put_any ⟨#[97]⟩ (by decide) w
  refine hc.mono ?_
  clear hc
  rintro e v1 ⟨Ap, rfl, hrp, hv1⟩
  replace hb := hb.trans (hv1.mono hsz)
  replace hsz : g ≤ v1.heap.size := Nat.le_trans hsz hv1.size
  clear hv1
  have Hp := Lib.hid hrp
  clear hrp
  go_wp2_with fail
  have hc := all_any 1 v1
  rw [show allL 1 = [(1, 1, emp)] from rfl] at hc
  refine hc.mono ?_
  clear hc
  rintro e v2 ⟨Ak, ck, rfl, hrk, hv2⟩
  replace Hp := Lib.hid (RdP.step Hp.out hv2)
  replace hb := hb.trans (hv2.mono hsz)
  replace hsz : g ≤ v2.heap.size := Nat.le_trans hsz hv2.size
  clear hv2
  have Hk := Lib.hid hrk
  clear hrk
  go_wp2_with fail
  have hc := hand_ok ⟨#[]⟩ [(2, 0, ⟨#[97]⟩)] [(1, 1, emp)] Ap Ak 1 1 1 ck v2 Hp.out Hk.out (by decide) (by decide)
  rw [show hC ⟨#[]⟩ [(2, 0, ⟨#[97]⟩)] [(1, 1, emp)] = ⟨1, 5, 4, ⟨#[97]⟩, true, [(2, 0, ⟨#[97]⟩)], true, [(1, 1, emp)]⟩ from rfl] at hc
  refine hc.mono ?_
  clear hc
  rintro e va ⟨sa, ha, rfl, -, -, hva⟩
  replace Hp := Lib.hid (RdP.step Hp.out hva)
  replace Hk := Lib.hid (RdP.step Hk.out hva)
  replace hb := hb.trans (hva.mono hsz)
  replace hsz : g ≤ va.heap.size := Nat.le_trans hsz hva.size
  clear hva
  clear Hp Hk
  unfold clv clc
  simp only
  go_upto_region 2 with (fail)
  have ko := Blk.new va 52 #[.int .i64 1, .int .i64 5, .int .i64 4, .string ⟨#[97]⟩, .bool true, .slice sa.1 sa.2.1 sa.2.2, .bool true, .slice ha.1 ha.2.1 ha.2.2]
  replace hb := hb.alloc hsz (.cells #[.int .i64 1, .int .i64 5, .int .i64 4, .string ⟨#[97]⟩, .bool true, .slice sa.1 sa.2.1 sa.2.2, .bool true, .slice ha.1 ha.2.1 ha.2.2] 52)
  have hs3 : (va.alloc (.cells #[.int .i64 1, .int .i64 5, .int .i64 4, .string ⟨#[97]⟩, .bool true, .slice sa.1 sa.2.1 sa.2.2, .bool true, .slice ha.1 ha.2.1 ha.2.2] 52)).heap.size = va.heap.size + 1 := by simp
  generalize (va.alloc (.cells #[.int .i64 1, .int .i64 5, .int .i64 4, .string ⟨#[97]⟩, .bool true, .slice sa.1 sa.2.1 sa.2.2, .bool true, .slice ha.1 ha.2.1 ha.2.2] 52)) = U3 at *
  obtain ⟨b, heb⟩ : ∃ b, va.heap.size = b := ⟨_, rfl⟩
  rw [heb] at ko ⊢
  have nb3 : g ≤ b := by omega
  replace hsz : g ≤ U3.heap.size := by omega
  have lo := ko.lt
  have co_0 := ko.cell 0
  have co_3 := ko.cell 3
  go_upto_region 4 with (fail)
  clear co_0 co_3
  go_wp2_with fail
  have hc := hand_ok s d f A A' n n' cp cp' U3 ((Hd.out.below hb).more hsz) ((Hf.out.below hb).more hsz) hss He.out
  rw [HC1.out] at hc
  refine hc.mono ?_
  clear hc
  rintro e v1 ⟨s1, h1, rfl, q1, q2, hv1⟩
  replace ko := ko.below hv1 ko.lt
  replace lo := ko.lt
  replace hb := hb.trans (hv1.mono hsz)
  replace hsz : g ≤ v1.heap.size := Nat.le_trans hsz hv1.size
  clear hv1
  have oS := Lib.hid q1
  have oH := Lib.hid q2
  clear q1 q2
  unfold clv clc
  simp only
  go_upto_region 7 with (first | (refine wpList_store_blk rfl _ (.tmp 7) (.tmp 38) rfl b #[.int .i64 C1.who, .int .i64 C1.rev, .int .i64 C1.seq, .string C1.text, .bool C1.fly, .slice s1.1 s1.2.1 s1.2.2, .bool C1.wait, .slice h1.1 h1.2.1 h1.2.2] rfl rfl _ _ ko client_info rfl (by simp [Value.oneCell']) ?_))
  have ho4 := Only.setRow v1 b #[.int .i64 C1.who, .int .i64 C1.rev, .int .i64 C1.seq, .string C1.text, .bool C1.fly, .slice s1.1 s1.2.1 s1.2.2, .bool C1.wait, .slice h1.1 h1.2.1 h1.2.2]
  replace oS := Lib.hid (own_only oS.out ho4 (fun k hk h_ => by rcases h_ with rfl; exact own_blk_ne oS.out ko (by decide) hk))
  replace oH := Lib.hid (own_only oH.out ho4 (fun k hk h_ => by rcases h_ with rfl; exact own_blk_ne oH.out ko (by decide) hk))
  replace ko := ko.row #[.int .i64 C1.who, .int .i64 C1.rev, .int .i64 C1.seq, .string C1.text, .bool C1.fly, .slice s1.1 s1.2.1 s1.2.2, .bool C1.wait, .slice h1.1 h1.2.1 h1.2.2]
  replace hb := below_setRow hb b #[.int .i64 C1.who, .int .i64 C1.rev, .int .i64 C1.seq, .string C1.text, .bool C1.fly, .slice s1.1 s1.2.1 s1.2.2, .bool C1.wait, .slice h1.1 h1.2.1 h1.2.2] (by omega)
  have hs4 : (v1.setRow b #[.int .i64 C1.who, .int .i64 C1.rev, .int .i64 C1.seq, .string C1.text, .bool C1.fly, .slice s1.1 s1.2.1 s1.2.2, .bool C1.wait, .slice h1.1 h1.2.1 h1.2.2]).heap.size = v1.heap.size := by simp
  generalize (v1.setRow b #[.int .i64 C1.who, .int .i64 C1.rev, .int .i64 C1.seq, .string C1.text, .bool C1.fly, .slice s1.1 s1.2.1 s1.2.2, .bool C1.wait, .slice h1.1 h1.2.1 h1.2.2]) = U4 at *
  replace hsz : g ≤ U4.heap.size := by omega
  replace lo := ko.lt
  have rS := rdS_ oS.out j3
  have rH := rdS_ oH.out j4
  go_wp2_with (first | (refine wpList_load_blk rfl _ (.tmp 7) rfl b rfl _ (client_row ko rfl) ?_))
  have hc := cout_good C1 s1 h1 U4 K1.out rS rH (by have := rS.1; omega) K6.out
  refine hc.mono ?_
  clear hc rS rH
  rintro e v2 ⟨d1, rfl, q1, hv2⟩
  replace ko := ko.below hv2 ko.lt
  replace lo := ko.lt
  replace oS := Lib.hid (own_below oS.out hv2)
  replace oH := Lib.hid (own_below oH.out hv2)
  replace hb := hb.trans (hv2.mono hsz)
  replace hsz : g ≤ v2.heap.size := Nat.le_trans hsz hv2.size
  clear hv2
  have oD := Lib.hid q1
  clear q1
  unfold mgv
  simp only
  go_upto_region 8 with (fail)
  replace ko := ko.alloc (.cells #[.int .i64 C1.rev, .int .i64 C1.who, .int .i64 C1.seq, .slice d1.1 d1.2.1 d1.2.2] 58)
  have km := Blk.new v2 58 #[.int .i64 C1.rev, .int .i64 C1.who, .int .i64 C1.seq, .slice d1.1 d1.2.1 d1.2.2]
  replace oS := Lib.hid (World.ownsRow.alloc oS.out (.cells #[.int .i64 C1.rev, .int .i64 C1.who, .int .i64 C1.seq, .slice d1.1 d1.2.1 d1.2.2] 58))
  replace oH := Lib.hid (World.ownsRow.alloc oH.out (.cells #[.int .i64 C1.rev, .int .i64 C1.who, .int .i64 C1.seq, .slice d1.1 d1.2.1 d1.2.2] 58))
  replace oD := Lib.hid (World.ownsRow.alloc oD.out (.cells #[.int .i64 C1.rev, .int .i64 C1.who, .int .i64 C1.seq, .slice d1.1 d1.2.1 d1.2.2] 58))
  replace hb := hb.alloc hsz (.cells #[.int .i64 C1.rev, .int .i64 C1.who, .int .i64 C1.seq, .slice d1.1 d1.2.1 d1.2.2] 58)
  have hs5 : (v2.alloc (.cells #[.int .i64 C1.rev, .int .i64 C1.who, .int .i64 C1.seq, .slice d1.1 d1.2.1 d1.2.2] 58)).heap.size = v2.heap.size + 1 := by simp
  generalize (v2.alloc (.cells #[.int .i64 C1.rev, .int .i64 C1.who, .int .i64 C1.seq, .slice d1.1 d1.2.1 d1.2.2] 58)) = U5 at *
  obtain ⟨m, hem⟩ : ∃ m, v2.heap.size = m := ⟨_, rfl⟩
  rw [hem] at km ⊢
  have nb5 : g ≤ m := by omega
  replace hsz : g ≤ U5.heap.size := by omega
  have nq5_o : b < m := by omega
  have lm := km.lt
  go_upto_region 10 with (fail)
  have rS := rdS_ oS.out j3
  have rH := rdS_ oH.out j4
  have rD := rdS_ oD.out j3
  go_wp2_with (first | (refine wpList_load_blk rfl _ (.tmp 7) rfl b rfl _ (client_row ko rfl) ?_) | (refine wpList_load_blk rfl _ (.tmp 9) rfl m rfl _ (msg_row km rfl) ?_))
  have hc := cin_own C1 s1 h1 C1.sent d1.1 d1.2.1 d1.2.2 U5 K1.out rS rH rD (by have := rS.1; omega) (by have := rH.1; omega) (by rw [K4.out]; decide) HSk.out K6.out (fun _ => by rw [K5.out]; decide)
  rw [HC2.out] at hc
  refine hc.mono ?_
  clear hc rS rH rD
  rintro e v3 ⟨s2, h2, rfl, q1, q2, hv3⟩
  replace ko := ko.below hv3 ko.lt
  replace lo := ko.lt
  replace km := km.below hv3 km.lt
  replace lm := km.lt
  replace oS := Lib.hid (own_below oS.out hv3)
  replace oH := Lib.hid (own_below oH.out hv3)
  replace oD := Lib.hid (own_below oD.out hv3)
  replace hb := hb.trans (hv3.mono hsz)
  replace hsz : g ≤ v3.heap.size := Nat.le_trans hsz hv3.size
  clear hv3
  have oX := Lib.hid q1
  have oY := Lib.hid q2
  clear q1 q2
  unfold clv clc
  simp only
  go_upto_region 11 with (fail)
  replace ko := ko.alloc (.cells #[.int .i64 C2.who, .int .i64 C2.rev, .int .i64 C2.seq, .string C2.text, .bool C2.fly, .slice s2.1 s2.2.1 s2.2.2, .bool C2.wait, .slice h2.1 h2.2.1 h2.2.2] 52)
  replace km := km.alloc (.cells #[.int .i64 C2.who, .int .i64 C2.rev, .int .i64 C2.seq, .string C2.text, .bool C2.fly, .slice s2.1 s2.2.1 s2.2.2, .bool C2.wait, .slice h2.1 h2.2.1 h2.2.2] 52)
  have kx := Blk.new v3 52 #[.int .i64 C2.who, .int .i64 C2.rev, .int .i64 C2.seq, .string C2.text, .bool C2.fly, .slice s2.1 s2.2.1 s2.2.2, .bool C2.wait, .slice h2.1 h2.2.1 h2.2.2]
  replace oS := Lib.hid (World.ownsRow.alloc oS.out (.cells #[.int .i64 C2.who, .int .i64 C2.rev, .int .i64 C2.seq, .string C2.text, .bool C2.fly, .slice s2.1 s2.2.1 s2.2.2, .bool C2.wait, .slice h2.1 h2.2.1 h2.2.2] 52))
  replace oH := Lib.hid (World.ownsRow.alloc oH.out (.cells #[.int .i64 C2.who, .int .i64 C2.rev, .int .i64 C2.seq, .string C2.text, .bool C2.fly, .slice s2.1 s2.2.1 s2.2.2, .bool C2.wait, .slice h2.1 h2.2.1 h2.2.2] 52))
  replace oD := Lib.hid (World.ownsRow.alloc oD.out (.cells #[.int .i64 C2.who, .int .i64 C2.rev, .int .i64 C2.seq, .string C2.text, .bool C2.fly, .slice s2.1 s2.2.1 s2.2.2, .bool C2.wait, .slice h2.1 h2.2.1 h2.2.2] 52))
  replace oX := Lib.hid (World.ownsRow.alloc oX.out (.cells #[.int .i64 C2.who, .int .i64 C2.rev, .int .i64 C2.seq, .string C2.text, .bool C2.fly, .slice s2.1 s2.2.1 s2.2.2, .bool C2.wait, .slice h2.1 h2.2.1 h2.2.2] 52))
  replace oY := Lib.hid (World.ownsRow.alloc oY.out (.cells #[.int .i64 C2.who, .int .i64 C2.rev, .int .i64 C2.seq, .string C2.text, .bool C2.fly, .slice s2.1 s2.2.1 s2.2.2, .bool C2.wait, .slice h2.1 h2.2.1 h2.2.2] 52))
  replace hb := hb.alloc hsz (.cells #[.int .i64 C2.who, .int .i64 C2.rev, .int .i64 C2.seq, .string C2.text, .bool C2.fly, .slice s2.1 s2.2.1 s2.2.2, .bool C2.wait, .slice h2.1 h2.2.1 h2.2.2] 52)
  have hs6 : (v3.alloc (.cells #[.int .i64 C2.who, .int .i64 C2.rev, .int .i64 C2.seq, .string C2.text, .bool C2.fly, .slice s2.1 s2.2.1 s2.2.2, .bool C2.wait, .slice h2.1 h2.2.1 h2.2.2] 52)).heap.size = v3.heap.size + 1 := by simp
  generalize (v3.alloc (.cells #[.int .i64 C2.who, .int .i64 C2.rev, .int .i64 C2.seq, .string C2.text, .bool C2.fly, .slice s2.1 s2.2.1 s2.2.2, .bool C2.wait, .slice h2.1 h2.2.1 h2.2.2] 52)) = U6 at *
  obtain ⟨x, hex⟩ : ∃ x, v3.heap.size = x := ⟨_, rfl⟩
  rw [hex] at kx ⊢
  have nb6 : g ≤ x := by omega
  replace hsz : g ≤ U6.heap.size := by omega
  have nq6_o : b < x := by omega
  have nq6_m : m < x := by omega
  have lx := kx.lt
  obtain ⟨i1, i2⟩ := ckok_len M1.out
  obtain ⟨i3, i4⟩ := ckok_txt M1.out
  have r6 := R6.out
  have r7 := R7.out
  have r8 := R8.out
  have r9 := R9.out
  have hw := HW.out
  have cx_0 := kx.cell 0
  have cx_1 := kx.cell 1
  have cx_2 := kx.cell 2
  have cx_3 := kx.cell 3
  have cx_4 := kx.cell 4
  have cx_5 := kx.cell 5
  have cx_6 := kx.cell 6
  have cx_7 := kx.cell 7
  have co_3 := ko.cell 3
  have co_6 := ko.cell 6
  go_wp2_with fail
  have hc := ccheck_good C2 s2 h2 U6 M1.out (rdS_ oX.out i3) (rdS_ oY.out i4)
  unfold clv clc at hc
  simp only [R6.out, R7.out, R8.out, R9.out] at hc
  clear cx_0 cx_1 cx_2 cx_3 cx_4 cx_5 cx_6 cx_7 co_3 co_6
  refine (hc).mono ?_
  rintro e v7 ⟨rfl, hv7⟩
  replace ko := ko.below hv7 ko.lt
  replace lo := ko.lt
  replace km := km.below hv7 km.lt
  replace lm := km.lt
  replace kx := kx.below hv7 kx.lt
  replace lx := kx.lt
  replace oS := Lib.hid (own_below oS.out hv7)
  replace oH := Lib.hid (own_below oH.out hv7)
  replace oD := Lib.hid (own_below oD.out hv7)
  replace oX := Lib.hid (own_below oX.out hv7)
  replace oY := Lib.hid (own_below oY.out hv7)
  replace hb := hb.trans (hv7.mono hsz)
  replace hsz : g ≤ v7.heap.size := Nat.le_trans hsz hv7.size
  clear hv7
  clear hc
  have cx_4 := kx.cell 4
  go_upto_region 16 with (fail)
  clear cx_4
  clear r6 r7 r8 r9 hw
  go_wp2_with (first | (refine wpList_load_blk rfl _ (.tmp 11) rfl x rfl _ (client_row kx rfl) ?_))
  have hc := cout_good C2 s2 h2 v7 M1.out (rdS_ oX.out i3) (rdS_ oY.out i4) (by have := (rdS_ oX.out i3).1; omega) R7.out
  rw [R10.out, R11.out, R6.out] at hc
  refine hc.mono ?_
  clear hc
  rintro e v4 ⟨d2, rfl, q1, hv4⟩
  replace ko := ko.below hv4 ko.lt
  replace lo := ko.lt
  replace km := km.below hv4 km.lt
  replace lm := km.lt
  replace kx := kx.below hv4 kx.lt
  replace lx := kx.lt
  replace oS := Lib.hid (own_below oS.out hv4)
  replace oH := Lib.hid (own_below oH.out hv4)
  replace oD := Lib.hid (own_below oD.out hv4)
  replace oX := Lib.hid (own_below oX.out hv4)
  replace oY := Lib.hid (own_below oY.out hv4)
  replace hb := hb.trans (hv4.mono hsz)
  replace hsz : g ≤ v4.heap.size := Nat.le_trans hsz hv4.size
  clear hv4
  have oE := Lib.hid q1
  clear q1
  unfold mgv
  simp only
  go_upto_region 17 with (fail)
  replace ko := ko.alloc (.cells #[.int .i64 6, .int .i64 C2.who, .int .i64 (C1.seq + 1), .slice d2.1 d2.2.1 d2.2.2] 58)
  replace km := km.alloc (.cells #[.int .i64 6, .int .i64 C2.who, .int .i64 (C1.seq + 1), .slice d2.1 d2.2.1 d2.2.2] 58)
  replace kx := kx.alloc (.cells #[.int .i64 6, .int .i64 C2.who, .int .i64 (C1.seq + 1), .slice d2.1 d2.2.1 d2.2.2] 58)
  have ky := Blk.new v4 58 #[.int .i64 6, .int .i64 C2.who, .int .i64 (C1.seq + 1), .slice d2.1 d2.2.1 d2.2.2]
  replace oS := Lib.hid (World.ownsRow.alloc oS.out (.cells #[.int .i64 6, .int .i64 C2.who, .int .i64 (C1.seq + 1), .slice d2.1 d2.2.1 d2.2.2] 58))
  replace oH := Lib.hid (World.ownsRow.alloc oH.out (.cells #[.int .i64 6, .int .i64 C2.who, .int .i64 (C1.seq + 1), .slice d2.1 d2.2.1 d2.2.2] 58))
  replace oD := Lib.hid (World.ownsRow.alloc oD.out (.cells #[.int .i64 6, .int .i64 C2.who, .int .i64 (C1.seq + 1), .slice d2.1 d2.2.1 d2.2.2] 58))
  replace oX := Lib.hid (World.ownsRow.alloc oX.out (.cells #[.int .i64 6, .int .i64 C2.who, .int .i64 (C1.seq + 1), .slice d2.1 d2.2.1 d2.2.2] 58))
  replace oY := Lib.hid (World.ownsRow.alloc oY.out (.cells #[.int .i64 6, .int .i64 C2.who, .int .i64 (C1.seq + 1), .slice d2.1 d2.2.1 d2.2.2] 58))
  replace oE := Lib.hid (World.ownsRow.alloc oE.out (.cells #[.int .i64 6, .int .i64 C2.who, .int .i64 (C1.seq + 1), .slice d2.1 d2.2.1 d2.2.2] 58))
  replace hb := hb.alloc hsz (.cells #[.int .i64 6, .int .i64 C2.who, .int .i64 (C1.seq + 1), .slice d2.1 d2.2.1 d2.2.2] 58)
  have hs8 : (v4.alloc (.cells #[.int .i64 6, .int .i64 C2.who, .int .i64 (C1.seq + 1), .slice d2.1 d2.2.1 d2.2.2] 58)).heap.size = v4.heap.size + 1 := by simp
  generalize (v4.alloc (.cells #[.int .i64 6, .int .i64 C2.who, .int .i64 (C1.seq + 1), .slice d2.1 d2.2.1 d2.2.2] 58)) = U8 at *
  obtain ⟨y, hey⟩ : ∃ y, v4.heap.size = y := ⟨_, rfl⟩
  rw [hey] at ky ⊢
  have nb8 : g ≤ y := by omega
  replace hsz : g ≤ U8.heap.size := by omega
  have nq8_o : b < y := by omega
  have nq8_m : m < y := by omega
  have nq8_x : x < y := by omega
  have ly := ky.lt
  have cy_0 := ky.cell 0
  have cy_2 := ky.cell 2
  have cy_3 := ky.cell 3
  have co_2 := ko.cell 2
  have co_7 := ko.cell 7
  have k5 := K5.out
  go_wp2_with fail
  clear cy_0 cy_2 cy_3 co_2 co_7
  refine (same_true C1.held C1.held d2.1 h1.1 d2.2.1 h1.2.1 d2.2.2 h1.2.2 _ _ _ (rdS_ oE.out j4) (rdS_ oH.out j4) rfl).mono ?_
  rintro e v9 ⟨rfl, hv9⟩
  replace ko := ko.below hv9 ko.lt
  replace lo := ko.lt
  replace km := km.below hv9 km.lt
  replace lm := km.lt
  replace kx := kx.below hv9 kx.lt
  replace lx := kx.lt
  replace ky := ky.below hv9 ky.lt
  replace ly := ky.lt
  replace oS := Lib.hid (own_below oS.out hv9)
  replace oH := Lib.hid (own_below oH.out hv9)
  replace oD := Lib.hid (own_below oD.out hv9)
  replace oX := Lib.hid (own_below oX.out hv9)
  replace oY := Lib.hid (own_below oY.out hv9)
  replace oE := Lib.hid (own_below oE.out hv9)
  replace hb := hb.trans (hv9.mono hsz)
  replace hsz : g ≤ v9.heap.size := Nat.le_trans hsz hv9.size
  clear hv9
  have cy_0 := ky.cell 0
  have cy_2 := ky.cell 2
  have co_2 := ko.cell 2
  go_wp2_with fail
  go_ret
  exact ⟨rfl, hbase ▸ hb⟩
theorem walk_ClientOwn (s : ByteArray) (hs : s.size ≤ 140737488351232) (v1 : Value) (d : List Pt) (v2 : Value) (f : List Pt) (w : World) (hx1 : IsParts w v1 d) (hx2 : IsParts w v2 f) :
    Calls Try.prog 7 #[.string s, v1, v2] w fun e w' => e = .returned (.bool true) ∧ Below w.heap.size w w' := by
  obtain ⟨A, n, cp, rfl, hd⟩ := hx1
  obtain ⟨A', n', cp', rfl, hf⟩ := hx2
  by_cases he : doE d s = 0
  · cases hw : (hC s d f).wait with
    | false => exact clientOwn_idle s d f A A' n n' cp cp' w hd hf hs he hw
    | true => exact clientOwn_held s d f A A' n n' cp cp' w hd hf hs he hw
  · exact clientOwn_err s d f A A' n n' cp cp' w hd hf hs he
end Go.Proofs.Ytfncpcmaplhojaa