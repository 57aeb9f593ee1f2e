/- ClientHolds: the walk. Whatever is told of others, a client's text is the server's, and then what it sent, and then what it holds. -/
import Derived.Test.YtfncpcmaplhojaaHand
import Derived.Test.YtfncpcmaplhojaaFirst
import Derived.Test.YtfncpcmaplhojaaOpenParts
namespace Go.Proofs.Ytfncpcmaplhojaa
open Go.ChangeShapes Go.WideShapes Go.RowKit
set_option linter.unusedVariables false
set_option linter.unusedSimpArgs false
set_option maxRecDepth 100000
set_option maxHeartbeats 4000000


theorem clientHolds_err (s : ByteArray) (d f o : List Pt) (A A' A2 : Option Addr) (n n' n2 cp cp' c2 : Nat) (w : World) (hd : RdP w w.heap.size A n cp d) (hf : RdP w w.heap.size A' n' cp' f) (ho : RdP w w.heap.size A2 n2 c2 o) (hss : s.size ≤ 140737488351232) (he : doE d s ≠ 0) :
    Calls Try.prog 6 #[.string s, .slice A n cp, .slice A' n' cp', .slice A2 n2 c2] w fun e w' => e = .returned (.bool true) ∧ Below w.heap.size w w' := by
  have Hd := Lib.hid hd
  have Hf := Lib.hid hf
  have Ho := Lib.hid ho
  clear hd hf ho
  obtain ⟨g, hbase⟩ : ∃ g, w.heap.size = g := ⟨_, rfl⟩
  have hb : Below g w w := Below.refl _ _
  have hsz : g ≤ w.heap.size := by omega
  rw [hbase]
  go_enter Try.func6, Try.ntmps6
  go_upto_region 1 with (fail)
  have Hd := Lib.hid (hbase ▸ Hd.out)
  have Hf := Lib.hid (hbase ▸ Hf.out)
  have Ho := Lib.hid (hbase ▸ Ho.out)
  go_wp2_with fail
  have hc := put_any ⟨#[97]⟩ (by decide) w
  refine hc.mono ?_
  clear hc
  rintro e v1 ⟨Ap, rfl, hrp, hv1⟩
  replace hb := hb.trans (hv1.mono hsz)
  replace hsz : g ≤ v1.heap.size := Nat.le_trans hsz hv1.size
  clear hv1
  have Hp := Lib.hid hrp
  clear hrp
  go_wp2_with fail
  have hc := all_any 1 v1
  rw [show allL 1 = [(1, 1, emp)] from rfl] at hc
  refine hc.mono ?_
  clear hc
  rintro e v2 ⟨Ak, ck, rfl, hrk, hv2⟩
  replace Hp := Lib.hid (RdP.step Hp.out hv2)
  replace hb := hb.trans (hv2.mono hsz)
  replace hsz : g ≤ v2.heap.size := Nat.le_trans hsz hv2.size
  clear hv2
  have Hk := Lib.hid hrk
  clear hrk
  go_wp2_with fail
  have hc := hand_ok ⟨#[]⟩ [(2, 0, ⟨#[97]⟩)] [(1, 1, emp)] Ap Ak 1 1 1 ck v2 Hp.out Hk.out (by decide) (by decide)
  rw [show hC ⟨#[]⟩ [(2, 0, ⟨#[97]⟩)] [(1, 1, emp)] = ⟨1, 5, 4, ⟨#[97]⟩, true, [(2, 0, ⟨#[97]⟩)], true, [(1, 1, emp)]⟩ from rfl] at hc
  refine hc.mono ?_
  clear hc
  rintro e va ⟨sa, ha, rfl, -, -, hva⟩
  replace Hp := Lib.hid (RdP.step Hp.out hva)
  replace Hk := Lib.hid (RdP.step Hk.out hva)
  replace hb := hb.trans (hva.mono hsz)
  replace hsz : g ≤ va.heap.size := Nat.le_trans hsz hva.size
  clear hva
  clear Hp Hk
  unfold clv clc
  simp only
  go_upto_region 2 with (fail)
  have ko := Blk.new va 52 #[.int .i64 1, .int .i64 5, .int .i64 4, .string ⟨#[97]⟩, .bool true, .slice sa.1 sa.2.1 sa.2.2, .bool true, .slice ha.1 ha.2.1 ha.2.2]
  replace hb := hb.alloc hsz (.cells #[.int .i64 1, .int .i64 5, .int .i64 4, .string ⟨#[97]⟩, .bool true, .slice sa.1 sa.2.1 sa.2.2, .bool true, .slice ha.1 ha.2.1 ha.2.2] 52)
  have hs3 : (va.alloc (.cells #[.int .i64 1, .int .i64 5, .int .i64 4, .string ⟨#[97]⟩, .bool true, .slice sa.1 sa.2.1 sa.2.2, .bool true, .slice ha.1 ha.2.1 ha.2.2] 52)).heap.size = va.heap.size + 1 := by simp
  generalize (va.alloc (.cells #[.int .i64 1, .int .i64 5, .int .i64 4, .string ⟨#[97]⟩, .bool true, .slice sa.1 sa.2.1 sa.2.2, .bool true, .slice ha.1 ha.2.1 ha.2.2] 52)) = U3 at *
  obtain ⟨b, heb⟩ : ∃ b, va.heap.size = b := ⟨_, rfl⟩
  rw [heb] at ko ⊢
  have nb3 : g ≤ b := by omega
  replace hsz : g ≤ U3.heap.size := by omega
  have lo := ko.lt
  have co_2 := ko.cell 2
  have co_3 := ko.cell 3
  have co_4 := ko.cell 4
  have co_6 := ko.cell 6
  go_upto_region 4 with (fail)
  clear co_2 co_3 co_4 co_6
  go_wp2_with fail
  refine (hand_err s d f A A' n n' cp cp' U3 ((Hd.out.below hb).more hsz) ((Hf.out.below hb).more hsz) hss he).mono ?_
  rintro e v1 ⟨rfl, hv1⟩
  replace ko := ko.below hv1 ko.lt
  replace lo := ko.lt
  replace hb := hb.trans (hv1.mono hsz)
  replace hsz : g ≤ v1.heap.size := Nat.le_trans hsz hv1.size
  clear hv1
  unfold clv clc
  simp only
  go_upto_region 6 with (first | (refine wpList_store_blk rfl _ (.tmp 9) (.tmp 48) rfl b #[.int .i64 0, .int .i64 0, .int .i64 0, .string ⟨#[]⟩, .bool false, .slice none 0 0, .bool false, .slice none 0 0] rfl rfl _ _ ko client_info rfl (by simp [Value.oneCell']) ?_))
  have ho5 := Only.setRow v1 b #[.int .i64 0, .int .i64 0, .int .i64 0, .string ⟨#[]⟩, .bool false, .slice none 0 0, .bool false, .slice none 0 0]
  replace ko := ko.row #[.int .i64 0, .int .i64 0, .int .i64 0, .string ⟨#[]⟩, .bool false, .slice none 0 0, .bool false, .slice none 0 0]
  replace hb := below_setRow hb b #[.int .i64 0, .int .i64 0, .int .i64 0, .string ⟨#[]⟩, .bool false, .slice none 0 0, .bool false, .slice none 0 0] (by omega)
  have hs5 : (v1.setRow b #[.int .i64 0, .int .i64 0, .int .i64 0, .string ⟨#[]⟩, .bool false, .slice none 0 0, .bool false, .slice none 0 0]).heap.size = v1.heap.size := by simp
  generalize (v1.setRow b #[.int .i64 0, .int .i64 0, .int .i64 0, .string ⟨#[]⟩, .bool false, .slice none 0 0, .bool false, .slice none 0 0]) = U5 at *
  replace hsz : g ≤ U5.heap.size := by omega
  replace lo := ko.lt
  go_wp2_with fail
  go_ret
  exact ⟨rfl, hbase ▸ hb⟩
theorem clientHolds_do (s : ByteArray) (d f o : List Pt) (A A' A2 : Option Addr) (n n' n2 cp cp' c2 : Nat) (w : World) (hd : RdP w w.heap.size A n cp d) (hf : RdP w w.heap.size A' n' cp' f) (ho : RdP w w.heap.size A2 n2 c2 o) (hss : s.size ≤ 140737488351232) (he : doE d s = 0) (he2 : doE o s ≠ 0) :
    Calls Try.prog 6 #[.string s, .slice A n cp, .slice A' n' cp', .slice A2 n2 c2] w fun e w' => e = .returned (.bool true) ∧ Below w.heap.size w w' := by
  obtain ⟨k1, k2, k3, k4, k5, k6⟩ := hC_ok (f := f) he
  obtain ⟨C1, hC1⟩ : ∃ C1, hC s d f = C1 := ⟨_, rfl⟩
  have hs5 := (do_chk he).2.2.2
  rw [hC1] at k1 k2 k3 k4 k5 k6
  have hne : (doE o s != 0) = true := by simpa using he2
  clear he2
  have K1 := Lib.hid k1
  have K3 := Lib.hid k3
  have K4 := Lib.hid k4
  have K6 := Lib.hid k6
  have HC1 := Lib.hid hC1
  have He := Lib.hid he
  obtain ⟨j1, j2⟩ := ckok_len k1
  obtain ⟨j3, j4⟩ := ckok_txt k1
  clear k1 k2 k3 k4 k5 k6 hC1 he
  have Hd := Lib.hid hd
  have Hf := Lib.hid hf
  have Ho := Lib.hid ho
  clear hd hf ho
  obtain ⟨g, hbase⟩ : ∃ g, w.heap.size = g := ⟨_, rfl⟩
  have hb : Below g w w := Below.refl _ _
  have hsz : g ≤ w.heap.size := by omega
  rw [hbase]
  go_enter Try.func6, Try.ntmps6
  go_upto_region 1 with (fail)
  have Hd := Lib.hid (hbase ▸ Hd.out)
  have Hf := Lib.hid (hbase ▸ Hf.out)
  have Ho := Lib.hid (hbase ▸ Ho.out)
  go_wp2_with fail
  have hc := put_any ⟨#[97]⟩ (by decide) w
  refine hc.mono ?_
  clear hc
  rintro e v1 ⟨Ap, rfl, hrp, hv1⟩
  replace hb := hb.trans (hv1.mono hsz)
  replace hsz : g ≤ v1.heap.size := Nat.le_trans hsz hv1.size
  clear hv1
  have Hp := Lib.hid hrp
  clear hrp
  go_wp2_with fail
  have hc := all_any 1 v1
  rw [show allL 1 = [(1, 1, emp)] from rfl] at hc
  refine hc.mono ?_
  clear hc
  rintro e v2 ⟨Ak, ck, rfl, hrk, hv2⟩
  replace Hp := Lib.hid (RdP.step Hp.out hv2)
  replace hb := hb.trans (hv2.mono hsz)
  replace hsz : g ≤ v2.heap.size := Nat.le_trans hsz hv2.size
  clear hv2
  have Hk := Lib.hid hrk
  clear hrk
  go_wp2_with fail
  have hc := hand_ok ⟨#[]⟩ [(2, 0, ⟨#[97]⟩)] [(1, 1, emp)] Ap Ak 1 1 1 ck v2 Hp.out Hk.out (by decide) (by decide)
  rw [show hC ⟨#[]⟩ [(2, 0, ⟨#[97]⟩)] [(1, 1, emp)] = ⟨1, 5, 4, ⟨#[97]⟩, true, [(2, 0, ⟨#[97]⟩)], true, [(1, 1, emp)]⟩ from rfl] at hc
  refine hc.mono ?_
  clear hc
  rintro e va ⟨sa, ha, rfl, -, -, hva⟩
  replace Hp := Lib.hid (RdP.step Hp.out hva)
  replace Hk := Lib.hid (RdP.step Hk.out hva)
  replace hb := hb.trans (hva.mono hsz)
  replace hsz : g ≤ va.heap.size := Nat.le_trans hsz hva.size
  clear hva
  clear Hp Hk
  unfold clv clc
  simp only
  go_upto_region 2 with (fail)
  have ko := Blk.new va 52 #[.int .i64 1, .int .i64 5, .int .i64 4, .string ⟨#[97]⟩, .bool true, .slice sa.1 sa.2.1 sa.2.2, .bool true, .slice ha.1 ha.2.1 ha.2.2]
  replace hb := hb.alloc hsz (.cells #[.int .i64 1, .int .i64 5, .int .i64 4, .string ⟨#[97]⟩, .bool true, .slice sa.1 sa.2.1 sa.2.2, .bool true, .slice ha.1 ha.2.1 ha.2.2] 52)
  have hs3 : (va.alloc (.cells #[.int .i64 1, .int .i64 5, .int .i64 4, .string ⟨#[97]⟩, .bool true, .slice sa.1 sa.2.1 sa.2.2, .bool true, .slice ha.1 ha.2.1 ha.2.2] 52)).heap.size = va.heap.size + 1 := by simp
  generalize (va.alloc (.cells #[.int .i64 1, .int .i64 5, .int .i64 4, .string ⟨#[97]⟩, .bool true, .slice sa.1 sa.2.1 sa.2.2, .bool true, .slice ha.1 ha.2.1 ha.2.2] 52)) = U3 at *
  obtain ⟨b, heb⟩ : ∃ b, va.heap.size = b := ⟨_, rfl⟩
  rw [heb] at ko ⊢
  have nb3 : g ≤ b := by omega
  replace hsz : g ≤ U3.heap.size := by omega
  have lo := ko.lt
  have co_2 := ko.cell 2
  have co_3 := ko.cell 3
  have co_4 := ko.cell 4
  have co_6 := ko.cell 6
  go_upto_region 4 with (fail)
  clear co_2 co_3 co_4 co_6
  go_wp2_with fail
  have hc := hand_ok s d f A A' n n' cp cp' U3 ((Hd.out.below hb).more hsz) ((Hf.out.below hb).more hsz) hss He.out
  rw [HC1.out] at hc
  refine hc.mono ?_
  clear hc
  rintro e v1 ⟨s1, h1, rfl, q1, q2, hv1⟩
  replace ko := ko.below hv1 ko.lt
  replace lo := ko.lt
  replace hb := hb.trans (hv1.mono hsz)
  replace hsz : g ≤ v1.heap.size := Nat.le_trans hsz hv1.size
  clear hv1
  have oS := Lib.hid q1
  have oH := Lib.hid q2
  clear q1 q2
  unfold clv clc
  simp only
  go_upto_region 7 with (first | (refine wpList_store_blk rfl _ (.tmp 9) (.tmp 48) rfl b #[.int .i64 C1.who, .int .i64 C1.rev, .int .i64 C1.seq, .string C1.text, .bool C1.fly, .slice s1.1 s1.2.1 s1.2.2, .bool C1.wait, .slice h1.1 h1.2.1 h1.2.2] rfl rfl _ _ ko client_info rfl (by simp [Value.oneCell']) ?_))
  have ho4 := Only.setRow v1 b #[.int .i64 C1.who, .int .i64 C1.rev, .int .i64 C1.seq, .string C1.text, .bool C1.fly, .slice s1.1 s1.2.1 s1.2.2, .bool C1.wait, .slice h1.1 h1.2.1 h1.2.2]
  replace oS := Lib.hid (own_only oS.out ho4 (fun k hk h_ => by rcases h_ with rfl; exact own_blk_ne oS.out ko (by decide) hk))
  replace oH := Lib.hid (own_only oH.out ho4 (fun k hk h_ => by rcases h_ with rfl; exact own_blk_ne oH.out ko (by decide) hk))
  replace ko := ko.row #[.int .i64 C1.who, .int .i64 C1.rev, .int .i64 C1.seq, .string C1.text, .bool C1.fly, .slice s1.1 s1.2.1 s1.2.2, .bool C1.wait, .slice h1.1 h1.2.1 h1.2.2]
  replace hb := below_setRow hb b #[.int .i64 C1.who, .int .i64 C1.rev, .int .i64 C1.seq, .string C1.text, .bool C1.fly, .slice s1.1 s1.2.1 s1.2.2, .bool C1.wait, .slice h1.1 h1.2.1 h1.2.2] (by omega)
  have hs4 : (v1.setRow b #[.int .i64 C1.who, .int .i64 C1.rev, .int .i64 C1.seq, .string C1.text, .bool C1.fly, .slice s1.1 s1.2.1 s1.2.2, .bool C1.wait, .slice h1.1 h1.2.1 h1.2.2]).heap.size = v1.heap.size := by simp
  generalize (v1.setRow b #[.int .i64 C1.who, .int .i64 C1.rev, .int .i64 C1.seq, .string C1.text, .bool C1.fly, .slice s1.1 s1.2.1 s1.2.2, .bool C1.wait, .slice h1.1 h1.2.1 h1.2.2]) = U4 at *
  replace hsz : g ≤ U4.heap.size := by omega
  replace lo := ko.lt
  go_wp2_with fail
  have hc := do_any o A2 n2 c2 g s U4 (Ho.out.below hb) hsz (by omega)
  refine (hc).mono ?_
  rintro e v5 ⟨rfl, hv5⟩
  replace ko := ko.below hv5 ko.lt
  replace lo := ko.lt
  replace oS := Lib.hid (own_below oS.out hv5)
  replace oH := Lib.hid (own_below oH.out hv5)
  replace hb := hb.trans (hv5.mono hsz)
  replace hsz : g ≤ v5.heap.size := Nat.le_trans hsz hv5.size
  clear hv5
  clear hc
  go_wp2_with fail
  go_ret
  exact ⟨rfl, hbase ▸ hb⟩
theorem clientHolds_large (s : ByteArray) (d f o : List Pt) (A A' A2 : Option Addr) (n n' n2 cp cp' c2 : Nat) (w : World) (hd : RdP w w.heap.size A n cp d) (hf : RdP w w.heap.size A' n' cp' f) (ho : RdP w w.heap.size A2 n2 c2 o) (hss : s.size ≤ 140737488351232) (he : doE d s = 0) (he2 : doE o s = 0) (hE : inE (hC s d f) o = 2) :
    Calls Try.prog 6 #[.string s, .slice A n cp, .slice A' n' cp', .slice A2 n2 c2] w fun e w' => e = .returned (.bool true) ∧ Below w.heap.size w w' := by
  obtain ⟨k1, k2, k3, k4, k5, k6⟩ := hC_ok (f := f) he
  obtain ⟨C1, hC1⟩ : ∃ C1, hC s d f = C1 := ⟨_, rfl⟩
  have hs5 := (do_chk he).2.2.2
  rw [hC1] at k1 k2 k3 k4 k5 k6
  rw [hC1] at hE
  have hR : inR C1 o = zeroCl := by unfold inR; rw [if_neg (by rw [hE]; decide)]
  have HR := Lib.hid hR
  have HE := Lib.hid hE
  clear hR hE
  have He2 := Lib.hid he2
  clear he2
  have K1 := Lib.hid k1
  have K3 := Lib.hid k3
  have K4 := Lib.hid k4
  have K6 := Lib.hid k6
  have HC1 := Lib.hid hC1
  have He := Lib.hid he
  obtain ⟨j1, j2⟩ := ckok_len k1
  obtain ⟨j3, j4⟩ := ckok_txt k1
  clear k1 k2 k3 k4 k5 k6 hC1 he
  have Hd := Lib.hid hd
  have Hf := Lib.hid hf
  have Ho := Lib.hid ho
  clear hd hf ho
  obtain ⟨g, hbase⟩ : ∃ g, w.heap.size = g := ⟨_, rfl⟩
  have hb : Below g w w := Below.refl _ _
  have hsz : g ≤ w.heap.size := by omega
  rw [hbase]
  go_enter Try.func6, Try.ntmps6
  go_upto_region 1 with (fail)
  have Hd := Lib.hid (hbase ▸ Hd.out)
  have Hf := Lib.hid (hbase ▸ Hf.out)
  have Ho := Lib.hid (hbase ▸ Ho.out)
  go_wp2_with fail
  have hc := put_any ⟨#[97]⟩ (by decide) w
  refine hc.mono ?_
  clear hc
  rintro e v1 ⟨Ap, rfl, hrp, hv1⟩
  replace hb := hb.trans (hv1.mono hsz)
  replace hsz : g ≤ v1.heap.size := Nat.le_trans hsz hv1.size
  clear hv1
  have Hp := Lib.hid hrp
  clear hrp
  go_wp2_with fail
  have hc := all_any 1 v1
  rw [show allL 1 = [(1, 1, emp)] from rfl] at hc
  refine hc.mono ?_
  clear hc
  rintro e v2 ⟨Ak, ck, rfl, hrk, hv2⟩
  replace Hp := Lib.hid (RdP.step Hp.out hv2)
  replace hb := hb.trans (hv2.mono hsz)
  replace hsz : g ≤ v2.heap.size := Nat.le_trans hsz hv2.size
  clear hv2
  have Hk := Lib.hid hrk
  clear hrk
  go_wp2_with fail
  have hc := hand_ok ⟨#[]⟩ [(2, 0, ⟨#[97]⟩)] [(1, 1, emp)] Ap Ak 1 1 1 ck v2 Hp.out Hk.out (by decide) (by decide)
  rw [show hC ⟨#[]⟩ [(2, 0, ⟨#[97]⟩)] [(1, 1, emp)] = ⟨1, 5, 4, ⟨#[97]⟩, true, [(2, 0, ⟨#[97]⟩)], true, [(1, 1, emp)]⟩ from rfl] at hc
  refine hc.mono ?_
  clear hc
  rintro e va ⟨sa, ha, rfl, -, -, hva⟩
  replace Hp := Lib.hid (RdP.step Hp.out hva)
  replace Hk := Lib.hid (RdP.step Hk.out hva)
  replace hb := hb.trans (hva.mono hsz)
  replace hsz : g ≤ va.heap.size := Nat.le_trans hsz hva.size
  clear hva
  clear Hp Hk
  unfold clv clc
  simp only
  go_upto_region 2 with (fail)
  have ko := Blk.new va 52 #[.int .i64 1, .int .i64 5, .int .i64 4, .string ⟨#[97]⟩, .bool true, .slice sa.1 sa.2.1 sa.2.2, .bool true, .slice ha.1 ha.2.1 ha.2.2]
  replace hb := hb.alloc hsz (.cells #[.int .i64 1, .int .i64 5, .int .i64 4, .string ⟨#[97]⟩, .bool true, .slice sa.1 sa.2.1 sa.2.2, .bool true, .slice ha.1 ha.2.1 ha.2.2] 52)
  have hs3 : (va.alloc (.cells #[.int .i64 1, .int .i64 5, .int .i64 4, .string ⟨#[97]⟩, .bool true, .slice sa.1 sa.2.1 sa.2.2, .bool true, .slice ha.1 ha.2.1 ha.2.2] 52)).heap.size = va.heap.size + 1 := by simp
  generalize (va.alloc (.cells #[.int .i64 1, .int .i64 5, .int .i64 4, .string ⟨#[97]⟩, .bool true, .slice sa.1 sa.2.1 sa.2.2, .bool true, .slice ha.1 ha.2.1 ha.2.2] 52)) = U3 at *
  obtain ⟨b, heb⟩ : ∃ b, va.heap.size = b := ⟨_, rfl⟩
  rw [heb] at ko ⊢
  have nb3 : g ≤ b := by omega
  replace hsz : g ≤ U3.heap.size := by omega
  have lo := ko.lt
  have co_2 := ko.cell 2
  have co_3 := ko.cell 3
  have co_4 := ko.cell 4
  have co_6 := ko.cell 6
  go_upto_region 4 with (fail)
  clear co_2 co_3 co_4 co_6
  go_wp2_with fail
  have hc := hand_ok s d f A A' n n' cp cp' U3 ((Hd.out.below hb).more hsz) ((Hf.out.below hb).more hsz) hss He.out
  rw [HC1.out] at hc
  refine hc.mono ?_
  clear hc
  rintro e v1 ⟨s1, h1, rfl, q1, q2, hv1⟩
  replace ko := ko.below hv1 ko.lt
  replace lo := ko.lt
  replace hb := hb.trans (hv1.mono hsz)
  replace hsz : g ≤ v1.heap.size := Nat.le_trans hsz hv1.size
  clear hv1
  have oS := Lib.hid q1
  have oH := Lib.hid q2
  clear q1 q2
  unfold clv clc
  simp only
  go_upto_region 7 with (first | (refine wpList_store_blk rfl _ (.tmp 9) (.tmp 48) rfl b #[.int .i64 C1.who, .int .i64 C1.rev, .int .i64 C1.seq, .string C1.text, .bool C1.fly, .slice s1.1 s1.2.1 s1.2.2, .bool C1.wait, .slice h1.1 h1.2.1 h1.2.2] rfl rfl _ _ ko client_info rfl (by simp [Value.oneCell']) ?_))
  have ho4 := Only.setRow v1 b #[.int .i64 C1.who, .int .i64 C1.rev, .int .i64 C1.seq, .string C1.text, .bool C1.fly, .slice s1.1 s1.2.1 s1.2.2, .bool C1.wait, .slice h1.1 h1.2.1 h1.2.2]
  replace oS := Lib.hid (own_only oS.out ho4 (fun k hk h_ => by rcases h_ with rfl; exact own_blk_ne oS.out ko (by decide) hk))
  replace oH := Lib.hid (own_only oH.out ho4 (fun k hk h_ => by rcases h_ with rfl; exact own_blk_ne oH.out ko (by decide) hk))
  replace ko := ko.row #[.int .i64 C1.who, .int .i64 C1.rev, .int .i64 C1.seq, .string C1.text, .bool C1.fly, .slice s1.1 s1.2.1 s1.2.2, .bool C1.wait, .slice h1.1 h1.2.1 h1.2.2]
  replace hb := below_setRow hb b #[.int .i64 C1.who, .int .i64 C1.rev, .int .i64 C1.seq, .string C1.text, .bool C1.fly, .slice s1.1 s1.2.1 s1.2.2, .bool C1.wait, .slice h1.1 h1.2.1 h1.2.2] (by omega)
  have hs4 : (v1.setRow b #[.int .i64 C1.who, .int .i64 C1.rev, .int .i64 C1.seq, .string C1.text, .bool C1.fly, .slice s1.1 s1.2.1 s1.2.2, .bool C1.wait, .slice h1.1 h1.2.1 h1.2.2]).heap.size = v1.heap.size := by simp
  generalize (v1.setRow b #[.int .i64 C1.who, .int .i64 C1.rev, .int .i64 C1.seq, .string C1.text, .bool C1.fly, .slice s1.1 s1.2.1 s1.2.2, .bool C1.wait, .slice h1.1 h1.2.1 h1.2.2]) = U4 at *
  replace hsz : g ≤ U4.heap.size := by omega
  replace lo := ko.lt
  go_wp2_with fail
  have hc := do_any o A2 n2 c2 g s U4 (Ho.out.below hb) hsz (by omega)
  rw [He2.out] at hc
  refine (hc).mono ?_
  rintro e v5 ⟨rfl, hv5⟩
  replace ko := ko.below hv5 ko.lt
  replace lo := ko.lt
  replace oS := Lib.hid (own_below oS.out hv5)
  replace oH := Lib.hid (own_below oH.out hv5)
  replace hb := hb.trans (hv5.mono hsz)
  replace hsz : g ≤ v5.heap.size := Nat.le_trans hsz hv5.size
  clear hv5
  clear hc
  go_upto_region 10 with (fail)
  go_wp2_with (first | (refine wpList_load_blk rfl _ (.tmp 9) rfl b rfl _ (client_row ko rfl) ?_))
  have rS := rdS_ oS.out j3
  have rH := rdS_ oH.out j4
  have hc := cin_any C1 s1 h1 2 9 o A2 n2 c2 v5 K1.out rS rH ((Ho.out.below hb).more hsz) (by have := rS.1; omega) (by have := rH.1; omega) (by rw [K4.out]; decide) (by rw [K3.out]; decide)
  rw [HR.out, HE.out, K4.out] at hc
  refine hc.mono ?_
  clear hc rS rH
  rintro e v2 ⟨s2, h2, rfl, q1, q2, hv2⟩
  clear oS oH
  replace ko := ko.below hv2 ko.lt
  replace lo := ko.lt
  replace hb := hb.trans (hv2.mono hsz)
  replace hsz : g ≤ v2.heap.size := Nat.le_trans hsz hv2.size
  clear hv2
  unfold clv clc zeroCl
  simp only
  go_wp2_with fail
  have hz := hb.alloc hsz (.cells #[.int .i64 0, .int .i64 0, .int .i64 0, .string ⟨#[]⟩, .bool false, .slice s2.1 s2.2.1 s2.2.2, .bool false, .slice h2.1 h2.2.1 h2.2.2] 52)
  go_ret
  exact ⟨rfl, hbase ▸ hz⟩
theorem clientHolds_idle (s : ByteArray) (d f o : List Pt) (A A' A2 : Option Addr) (n n' n2 cp cp' c2 : Nat) (w : World) (hd : RdP w w.heap.size A n cp d) (hf : RdP w w.heap.size A' n' cp' f) (ho : RdP w w.heap.size A2 n2 c2 o) (hss : s.size ≤ 140737488351232) (he : doE d s = 0) (he2 : doE o s = 0) (hE : inE (hC s d f) o = 0) (hw : (hC s d f).wait = false) :
    Calls Try.prog 6 #[.string s, .slice A n cp, .slice A' n' cp', .slice A2 n2 c2] w fun e w' => e = .returned (.bool true) ∧ Below w.heap.size w w' := by
  obtain ⟨k1, k2, k3, k4, k5, k6⟩ := hC_ok (f := f) he
  obtain ⟨C1, hC1⟩ : ∃ C1, hC s d f = C1 := ⟨_, rfl⟩
  have hs5 := (do_chk he).2.2.2
  rw [hC1] at k1 k2 k3 k4 k5 k6
  rw [hC1] at hE
  rw [hC1] at hw
  have hin := in_cases k1 k2 he2 (by omega)
  rcases hin with hin | ⟨hin, m1, m2⟩
  · rw [hE] at hin; exact absurd hin (by decide)
  have hR : inR C1 o = inL C1 o := by unfold inR; rw [if_pos hE]
  obtain ⟨C2, hC2⟩ : ∃ C2, inL C1 o = C2 := ⟨_, rfl⟩
  rw [hC2] at hR m1 m2
  have r6 : C2.rev = 6 := by rw [← hC2]; simp [inL, k4]
  have r7 : C2.fly = true := by rw [← hC2]; exact k6
  have r8 : C2.wait = false := by rw [← hC2]; exact hw
  have HR := Lib.hid hR
  have M1 := Lib.hid m1
  have m3 := m2.sent r7
  have m4 := m2.flies r7 r8
  have ht5 := do_le he2
  obtain ⟨T, hT⟩ : ∃ T, doS o s = T := ⟨_, rfl⟩
  rw [hT] at m2 m3 m4 ht5
  have HT := Lib.hid hT
  have M3 := Lib.hid m3
  obtain ⟨U, hU⟩ : ∃ U, doS C2.sent T = U := ⟨_, rfl⟩
  have HU := Lib.hid hU
  have hu5 : U.size ≤ 500 := by rw [← hU]; exact do_le m3
  rw [hU] at m4
  have M4 := Lib.hid m4
  have R6 := Lib.hid r6
  have R7 := Lib.hid r7
  have R8 := Lib.hid r8
  clear hR m1 m2 m3 m4 hT hU hC2 hE hw r6 r7 r8
  have He2 := Lib.hid he2
  clear he2
  have HE : Hid (inE C1 o = 0) := Lib.hid hin
  clear hin
  have K1 := Lib.hid k1
  have K3 := Lib.hid k3
  have K4 := Lib.hid k4
  have K6 := Lib.hid k6
  have HC1 := Lib.hid hC1
  have He := Lib.hid he
  obtain ⟨j1, j2⟩ := ckok_len k1
  obtain ⟨j3, j4⟩ := ckok_txt k1
  clear k1 k2 k3 k4 k5 k6 hC1 he
  have Hd := Lib.hid hd
  have Hf := Lib.hid hf
  have Ho := Lib.hid ho
  clear hd hf ho
  obtain ⟨g, hbase⟩ : ∃ g, w.heap.size = g := ⟨_, rfl⟩
  have hb : Below g w w := Below.refl _ _
  have hsz : g ≤ w.heap.size := by omega
  rw [hbase]
  go_enter Try.func6, Try.ntmps6
  go_upto_region 1 with (fail)
  have Hd := Lib.hid (hbase ▸ Hd.out)
  have Hf := Lib.hid (hbase ▸ Hf.out)
  have Ho := Lib.hid (hbase ▸ Ho.out)
  go_wp2_with fail
  have hc := put_any ⟨#[97]⟩ (by decide) w
  refine hc.mono ?_
  clear hc
  rintro e v1 ⟨Ap, rfl, hrp, hv1⟩
  replace hb := hb.trans (hv1.mono hsz)
  replace hsz : g ≤ v1.heap.size := Nat.le_trans hsz hv1.size
  clear hv1
  have Hp := Lib.hid hrp
  clear hrp
  go_wp2_with fail
  have hc := all_any 1 v1
  rw [show allL 1 = [(1, 1, emp)] from rfl] at hc
  refine hc.mono ?_
  clear hc
  rintro e v2 ⟨Ak, ck, rfl, hrk, hv2⟩
  replace Hp := Lib.hid (RdP.step Hp.out hv2)
  replace hb := hb.trans (hv2.mono hsz)
  replace hsz : g ≤ v2.heap.size := Nat.le_trans hsz hv2.size
  clear hv2
  have Hk := Lib.hid hrk
  clear hrk
  go_wp2_with fail
  have hc := hand_ok ⟨#[]⟩ [(2, 0, ⟨#[97]⟩)] [(1, 1, emp)] Ap Ak 1 1 1 ck v2 Hp.out Hk.out (by decide) (by decide)
  rw [show hC ⟨#[]⟩ [(2, 0, ⟨#[97]⟩)] [(1, 1, emp)] = ⟨1, 5, 4, ⟨#[97]⟩, true, [(2, 0, ⟨#[97]⟩)], true, [(1, 1, emp)]⟩ from rfl] at hc
  refine hc.mono ?_
  clear hc
  rintro e va ⟨sa, ha, rfl, -, -, hva⟩
  replace Hp := Lib.hid (RdP.step Hp.out hva)
  replace Hk := Lib.hid (RdP.step Hk.out hva)
  replace hb := hb.trans (hva.mono hsz)
  replace hsz : g ≤ va.heap.size := Nat.le_trans hsz hva.size
  clear hva
  clear Hp Hk
  unfold clv clc
  simp only
  go_upto_region 2 with (fail)
  have ko := Blk.new va 52 #[.int .i64 1, .int .i64 5, .int .i64 4, .string ⟨#[97]⟩, .bool true, .slice sa.1 sa.2.1 sa.2.2, .bool true, .slice ha.1 ha.2.1 ha.2.2]
  replace hb := hb.alloc hsz (.cells #[.int .i64 1, .int .i64 5, .int .i64 4, .string ⟨#[97]⟩, .bool true, .slice sa.1 sa.2.1 sa.2.2, .bool true, .slice ha.1 ha.2.1 ha.2.2] 52)
  have hs3 : (va.alloc (.cells #[.int .i64 1, .int .i64 5, .int .i64 4, .string ⟨#[97]⟩, .bool true, .slice sa.1 sa.2.1 sa.2.2, .bool true, .slice ha.1 ha.2.1 ha.2.2] 52)).heap.size = va.heap.size + 1 := by simp
  generalize (va.alloc (.cells #[.int .i64 1, .int .i64 5, .int .i64 4, .string ⟨#[97]⟩, .bool true, .slice sa.1 sa.2.1 sa.2.2, .bool true, .slice ha.1 ha.2.1 ha.2.2] 52)) = U3 at *
  obtain ⟨b, heb⟩ : ∃ b, va.heap.size = b := ⟨_, rfl⟩
  rw [heb] at ko ⊢
  have nb3 : g ≤ b := by omega
  replace hsz : g ≤ U3.heap.size := by omega
  have lo := ko.lt
  have co_2 := ko.cell 2
  have co_3 := ko.cell 3
  have co_4 := ko.cell 4
  have co_6 := ko.cell 6
  go_upto_region 4 with (fail)
  clear co_2 co_3 co_4 co_6
  go_wp2_with fail
  have hc := hand_ok s d f A A' n n' cp cp' U3 ((Hd.out.below hb).more hsz) ((Hf.out.below hb).more hsz) hss He.out
  rw [HC1.out] at hc
  refine hc.mono ?_
  clear hc
  rintro e v1 ⟨s1, h1, rfl, q1, q2, hv1⟩
  replace ko := ko.below hv1 ko.lt
  replace lo := ko.lt
  replace hb := hb.trans (hv1.mono hsz)
  replace hsz : g ≤ v1.heap.size := Nat.le_trans hsz hv1.size
  clear hv1
  have oS := Lib.hid q1
  have oH := Lib.hid q2
  clear q1 q2
  unfold clv clc
  simp only
  go_upto_region 7 with (first | (refine wpList_store_blk rfl _ (.tmp 9) (.tmp 48) rfl b #[.int .i64 C1.who, .int .i64 C1.rev, .int .i64 C1.seq, .string C1.text, .bool C1.fly, .slice s1.1 s1.2.1 s1.2.2, .bool C1.wait, .slice h1.1 h1.2.1 h1.2.2] rfl rfl _ _ ko client_info rfl (by simp [Value.oneCell']) ?_))
  have ho4 := Only.setRow v1 b #[.int .i64 C1.who, .int .i64 C1.rev, .int .i64 C1.seq, .string C1.text, .bool C1.fly, .slice s1.1 s1.2.1 s1.2.2, .bool C1.wait, .slice h1.1 h1.2.1 h1.2.2]
  replace oS := Lib.hid (own_only oS.out ho4 (fun k hk h_ => by rcases h_ with rfl; exact own_blk_ne oS.out ko (by decide) hk))
  replace oH := Lib.hid (own_only oH.out ho4 (fun k hk h_ => by rcases h_ with rfl; exact own_blk_ne oH.out ko (by decide) hk))
  replace ko := ko.row #[.int .i64 C1.who, .int .i64 C1.rev, .int .i64 C1.seq, .string C1.text, .bool C1.fly, .slice s1.1 s1.2.1 s1.2.2, .bool C1.wait, .slice h1.1 h1.2.1 h1.2.2]
  replace hb := below_setRow hb b #[.int .i64 C1.who, .int .i64 C1.rev, .int .i64 C1.seq, .string C1.text, .bool C1.fly, .slice s1.1 s1.2.1 s1.2.2, .bool C1.wait, .slice h1.1 h1.2.1 h1.2.2] (by omega)
  have hs4 : (v1.setRow b #[.int .i64 C1.who, .int .i64 C1.rev, .int .i64 C1.seq, .string C1.text, .bool C1.fly, .slice s1.1 s1.2.1 s1.2.2, .bool C1.wait, .slice h1.1 h1.2.1 h1.2.2]).heap.size = v1.heap.size := by simp
  generalize (v1.setRow b #[.int .i64 C1.who, .int .i64 C1.rev, .int .i64 C1.seq, .string C1.text, .bool C1.fly, .slice s1.1 s1.2.1 s1.2.2, .bool C1.wait, .slice h1.1 h1.2.1 h1.2.2]) = U4 at *
  replace hsz : g ≤ U4.heap.size := by omega
  replace lo := ko.lt
  go_wp2_with fail
  have hc := do_any o A2 n2 c2 g s U4 (Ho.out.below hb) hsz (by omega)
  rw [He2.out] at hc
  rw [HT.out] at hc
  refine (hc).mono ?_
  rintro e v5 ⟨rfl, hv5⟩
  replace ko := ko.below hv5 ko.lt
  replace lo := ko.lt
  replace oS := Lib.hid (own_below oS.out hv5)
  replace oH := Lib.hid (own_below oH.out hv5)
  replace hb := hb.trans (hv5.mono hsz)
  replace hsz : g ≤ v5.heap.size := Nat.le_trans hsz hv5.size
  clear hv5
  clear hc
  go_upto_region 10 with (fail)
  go_wp2_with (first | (refine wpList_load_blk rfl _ (.tmp 9) rfl b rfl _ (client_row ko rfl) ?_))
  have rS := rdS_ oS.out j3
  have rH := rdS_ oH.out j4
  have hc := cin_any C1 s1 h1 2 9 o A2 n2 c2 v5 K1.out rS rH ((Ho.out.below hb).more hsz) (by have := rS.1; omega) (by have := rH.1; omega) (by rw [K4.out]; decide) (by rw [K3.out]; decide)
  rw [HR.out, HE.out, K4.out] at hc
  refine hc.mono ?_
  clear hc rS rH
  rintro e v2 ⟨s2, h2, rfl, q1, q2, hv2⟩
  clear oS oH
  replace ko := ko.below hv2 ko.lt
  replace lo := ko.lt
  replace hb := hb.trans (hv2.mono hsz)
  replace hsz : g ≤ v2.heap.size := Nat.le_trans hsz hv2.size
  clear hv2
  have oS := Lib.hid q1
  have oH := Lib.hid q2
  clear q1 q2
  unfold clv clc
  simp only
  go_upto_region 13 with (fail)
  replace ko := ko.alloc (.cells #[.int .i64 C2.who, .int .i64 C2.rev, .int .i64 C2.seq, .string C2.text, .bool C2.fly, .slice s2.1 s2.2.1 s2.2.2, .bool C2.wait, .slice h2.1 h2.2.1 h2.2.2] 52)
  have kx := Blk.new v2 52 #[.int .i64 C2.who, .int .i64 C2.rev, .int .i64 C2.seq, .string C2.text, .bool C2.fly, .slice s2.1 s2.2.1 s2.2.2, .bool C2.wait, .slice h2.1 h2.2.1 h2.2.2]
  replace oS := Lib.hid (World.ownsRow.alloc oS.out (.cells #[.int .i64 C2.who, .int .i64 C2.rev, .int .i64 C2.seq, .string C2.text, .bool C2.fly, .slice s2.1 s2.2.1 s2.2.2, .bool C2.wait, .slice h2.1 h2.2.1 h2.2.2] 52))
  replace oH := Lib.hid (World.ownsRow.alloc oH.out (.cells #[.int .i64 C2.who, .int .i64 C2.rev, .int .i64 C2.seq, .string C2.text, .bool C2.fly, .slice s2.1 s2.2.1 s2.2.2, .bool C2.wait, .slice h2.1 h2.2.1 h2.2.2] 52))
  replace hb := hb.alloc hsz (.cells #[.int .i64 C2.who, .int .i64 C2.rev, .int .i64 C2.seq, .string C2.text, .bool C2.fly, .slice s2.1 s2.2.1 s2.2.2, .bool C2.wait, .slice h2.1 h2.2.1 h2.2.2] 52)
  have hs6 : (v2.alloc (.cells #[.int .i64 C2.who, .int .i64 C2.rev, .int .i64 C2.seq, .string C2.text, .bool C2.fly, .slice s2.1 s2.2.1 s2.2.2, .bool C2.wait, .slice h2.1 h2.2.1 h2.2.2] 52)).heap.size = v2.heap.size + 1 := by simp
  generalize (v2.alloc (.cells #[.int .i64 C2.who, .int .i64 C2.rev, .int .i64 C2.seq, .string C2.text, .bool C2.fly, .slice s2.1 s2.2.1 s2.2.2, .bool C2.wait, .slice h2.1 h2.2.1 h2.2.2] 52)) = U6 at *
  obtain ⟨x, hex⟩ : ∃ x, v2.heap.size = x := ⟨_, rfl⟩
  rw [hex] at kx ⊢
  have nb6 : g ≤ x := by omega
  replace hsz : g ≤ U6.heap.size := by omega
  have nq6_o : b < x := by omega
  have lx := kx.lt
  obtain ⟨i1, i2⟩ := ckok_len M1.out
  obtain ⟨i3, i4⟩ := ckok_txt M1.out
  have cx_5 := kx.cell 5
  go_wp2_with fail
  clear cx_5
  have hc := do_any C2.sent s2.1 s2.2.1 s2.2.2 _ T U6 (rdS_ oS.out i3) (Nat.le_refl _) (by omega)
  rw [M3.out, HU.out] at hc
  refine (hc).mono ?_
  rintro e v7 ⟨rfl, hv7⟩
  replace ko := ko.below hv7 ko.lt
  replace lo := ko.lt
  replace kx := kx.below hv7 kx.lt
  replace lx := kx.lt
  replace oS := Lib.hid (own_below oS.out hv7)
  replace oH := Lib.hid (own_below oH.out hv7)
  replace hb := hb.trans (hv7.mono hsz)
  replace hsz : g ≤ v7.heap.size := Nat.le_trans hsz hv7.size
  clear hv7
  clear hc
  have r8 := R8.out
  have cx_6 := kx.cell 6
  go_upto_region 16 with (fail)
  clear cx_6
  have m4 := M4.out
  have r6 := R6.out
  have r7 := R7.out
  have cx_0 := kx.cell 0
  have cx_1 := kx.cell 1
  have cx_2 := kx.cell 2
  have cx_3 := kx.cell 3
  have cx_4 := kx.cell 4
  have cx_5 := kx.cell 5
  have cx_6 := kx.cell 6
  have cx_7 := kx.cell 7
  go_wp2_with fail
  clear cx_0 cx_1 cx_2 cx_3 cx_4 cx_5 cx_6 cx_7
  have hc := ccheck_good C2 s2 h2 v7 M1.out (rdS_ oS.out i3) (rdS_ oH.out i4)
  unfold clv clc at hc
  simp only [R6.out, R7.out, R8.out, M4.out] at hc
  refine (hc).mono ?_
  rintro e v8 ⟨rfl, hv8⟩
  replace ko := ko.below hv8 ko.lt
  replace lo := ko.lt
  replace kx := kx.below hv8 kx.lt
  replace lx := kx.lt
  replace oS := Lib.hid (own_below oS.out hv8)
  replace oH := Lib.hid (own_below oH.out hv8)
  replace hb := hb.trans (hv8.mono hsz)
  replace hsz : g ≤ v8.heap.size := Nat.le_trans hsz hv8.size
  clear hv8
  clear hc
  go_wp2_with fail
  go_ret
  exact ⟨rfl, hbase ▸ hb⟩
theorem clientHolds_held (s : ByteArray) (d f o : List Pt) (A A' A2 : Option Addr) (n n' n2 cp cp' c2 : Nat) (w : World) (hd : RdP w w.heap.size A n cp d) (hf : RdP w w.heap.size A' n' cp' f) (ho : RdP w w.heap.size A2 n2 c2 o) (hss : s.size ≤ 140737488351232) (he : doE d s = 0) (he2 : doE o s = 0) (hE : inE (hC s d f) o = 0) (hw : (hC s d f).wait = true) :
    Calls Try.prog 6 #[.string s, .slice A n cp, .slice A' n' cp', .slice A2 n2 c2] w fun e w' => e = .returned (.bool true) ∧ Below w.heap.size w w' := by
  obtain ⟨k1, k2, k3, k4, k5, k6⟩ := hC_ok (f := f) he
  obtain ⟨C1, hC1⟩ : ∃ C1, hC s d f = C1 := ⟨_, rfl⟩
  have hs5 := (do_chk he).2.2.2
  rw [hC1] at k1 k2 k3 k4 k5 k6
  rw [hC1] at hE
  rw [hC1] at hw
  have hin := in_cases k1 k2 he2 (by omega)
  rcases hin with hin | ⟨hin, m1, m2⟩
  · rw [hE] at hin; exact absurd hin (by decide)
  have hR : inR C1 o = inL C1 o := by unfold inR; rw [if_pos hE]
  obtain ⟨C2, hC2⟩ : ∃ C2, inL C1 o = C2 := ⟨_, rfl⟩
  rw [hC2] at hR m1 m2
  have r6 : C2.rev = 6 := by rw [← hC2]; simp [inL, k4]
  have r7 : C2.fly = true := by rw [← hC2]; exact k6
  have r8 : C2.wait = true := by rw [← hC2]; exact hw
  have HR := Lib.hid hR
  have M1 := Lib.hid m1
  have m3 := m2.sent r7
  have m4 := m2.waits r8
  have ht5 := do_le he2
  obtain ⟨T, hT⟩ : ∃ T, doS o s = T := ⟨_, rfl⟩
  rw [hT] at m2 m3 m4 ht5
  have HT := Lib.hid hT
  have M3 := Lib.hid m3
  obtain ⟨U, hU⟩ : ∃ U, doS C2.sent T = U := ⟨_, rfl⟩
  have HU := Lib.hid hU
  have hu5 : U.size ≤ 500 := by rw [← hU]; exact do_le m3
  rw [hU] at m4
  have M4 := Lib.hid m4
  have R6 := Lib.hid r6
  have R7 := Lib.hid r7
  have R8 := Lib.hid r8
  have m5 := m2.held r8
  rw [hU] at m5
  have M5 := Lib.hid m5
  clear m5
  clear hR m1 m2 m3 m4 hT hU hC2 hE hw r6 r7 r8
  have He2 := Lib.hid he2
  clear he2
  have HE : Hid (inE C1 o = 0) := Lib.hid hin
  clear hin
  have K1 := Lib.hid k1
  have K3 := Lib.hid k3
  have K4 := Lib.hid k4
  have K6 := Lib.hid k6
  have HC1 := Lib.hid hC1
  have He := Lib.hid he
  obtain ⟨j1, j2⟩ := ckok_len k1
  obtain ⟨j3, j4⟩ := ckok_txt k1
  clear k1 k2 k3 k4 k5 k6 hC1 he
  have Hd := Lib.hid hd
  have Hf := Lib.hid hf
  have Ho := Lib.hid ho
  clear hd hf ho
  obtain ⟨g, hbase⟩ : ∃ g, w.heap.size = g := ⟨_, rfl⟩
  have hb : Below g w w := Below.refl _ _
  have hsz : g ≤ w.heap.size := by omega
  rw [hbase]
  go_enter Try.func6, Try.ntmps6
  go_upto_region 1 with (fail)
  have Hd := Lib.hid (hbase ▸ Hd.out)
  have Hf := Lib.hid (hbase ▸ Hf.out)
  have Ho := Lib.hid (hbase ▸ Ho.out)
  go_wp2_with fail
  have hc := put_any ⟨#[97]⟩ (by decide) w
  refine hc.mono ?_
  clear hc
  rintro e v1 ⟨Ap, rfl, hrp, hv1⟩
  replace hb := hb.trans (hv1.mono hsz)
  replace hsz : g ≤ v1.heap.size := Nat.le_trans hsz hv1.size
  clear hv1
  have Hp := Lib.hid hrp
  clear hrp
  go_wp2_with fail
  have hc := all_any 1 v1
  rw [show allL 1 = [(1, 1, emp)] from rfl] at hc
  refine hc.mono ?_
  clear hc
  rintro e v2 ⟨Ak, ck, rfl, hrk, hv2⟩
  replace Hp := Lib.hid (RdP.step Hp.out hv2)
  replace hb := hb.trans (hv2.mono hsz)
  replace hsz : g ≤ v2.heap.size := Nat.le_trans hsz hv2.size
  clear hv2
  have Hk := Lib.hid hrk
  clear hrk
  go_wp2_with fail
  have hc := hand_ok ⟨#[]⟩ [(2, 0, ⟨#[97]⟩)] [(1, 1, emp)] Ap Ak 1 1 1 ck v2 Hp.out Hk.out (by decide) (by decide)
  rw [show hC ⟨#[]⟩ [(2, 0, ⟨#[97]⟩)] [(1, 1, emp)] = ⟨1, 5, 4, ⟨#[97]⟩, true, [(2, 0, ⟨#[97]⟩)], true, [(1, 1, emp)]⟩ from rfl] at hc
  refine hc.mono ?_
  clear hc
  rintro e va ⟨sa, ha, rfl, -, -, hva⟩
  replace Hp := Lib.hid (RdP.step Hp.out hva)
  replace Hk := Lib.hid (RdP.step Hk.out hva)
  replace hb := hb.trans (hva.mono hsz)
  replace hsz : g ≤ va.heap.size := Nat.le_trans hsz hva.size
  clear hva
  clear Hp Hk
  unfold clv clc
  simp only
  go_upto_region 2 with (fail)
  have ko := Blk.new va 52 #[.int .i64 1, .int .i64 5, .int .i64 4, .string ⟨#[97]⟩, .bool true, .slice sa.1 sa.2.1 sa.2.2, .bool true, .slice ha.1 ha.2.1 ha.2.2]
  replace hb := hb.alloc hsz (.cells #[.int .i64 1, .int .i64 5, .int .i64 4, .string ⟨#[97]⟩, .bool true, .slice sa.1 sa.2.1 sa.2.2, .bool true, .slice ha.1 ha.2.1 ha.2.2] 52)
  have hs3 : (va.alloc (.cells #[.int .i64 1, .int .i64 5, .int .i64 4, .string ⟨#[97]⟩, .bool true, .slice sa.1 sa.2.1 sa.2.2, .bool true, .slice ha.1 ha.2.1 ha.2.2] 52)).heap.size = va.heap.size + 1 := by simp
  generalize (va.alloc (.cells #[.int .i64 1, .int .i64 5, .int .i64 4, .string ⟨#[97]⟩, .bool true, .slice sa.1 sa.2.1 sa.2.2, .bool true, .slice ha.1 ha.2.1 ha.2.2] 52)) = U3 at *
  obtain ⟨b, heb⟩ : ∃ b, va.heap.size = b := ⟨_, rfl⟩
  rw [heb] at ko ⊢
  have nb3 : g ≤ b := by omega
  replace hsz : g ≤ U3.heap.size := by omega
  have lo := ko.lt
  have co_2 := ko.cell 2
  have co_3 := ko.cell 3
  have co_4 := ko.cell 4
  have co_6 := ko.cell 6
  go_upto_region 4 with (fail)
  clear co_2 co_3 co_4 co_6
  go_wp2_with fail
  have hc := hand_ok s d f A A' n n' cp cp' U3 ((Hd.out.below hb).more hsz) ((Hf.out.below hb).more hsz) hss He.out
  rw [HC1.out] at hc
  refine hc.mono ?_
  clear hc
  rintro e v1 ⟨s1, h1, rfl, q1, q2, hv1⟩
  replace ko := ko.below hv1 ko.lt
  replace lo := ko.lt
  replace hb := hb.trans (hv1.mono hsz)
  replace hsz : g ≤ v1.heap.size := Nat.le_trans hsz hv1.size
  clear hv1
  have oS := Lib.hid q1
  have oH := Lib.hid q2
  clear q1 q2
  unfold clv clc
  simp only
  go_upto_region 7 with (first | (refine wpList_store_blk rfl _ (.tmp 9) (.tmp 48) rfl b #[.int .i64 C1.who, .int .i64 C1.rev, .int .i64 C1.seq, .string C1.text, .bool C1.fly, .slice s1.1 s1.2.1 s1.2.2, .bool C1.wait, .slice h1.1 h1.2.1 h1.2.2] rfl rfl _ _ ko client_info rfl (by simp [Value.oneCell']) ?_))
  have ho4 := Only.setRow v1 b #[.int .i64 C1.who, .int .i64 C1.rev, .int .i64 C1.seq, .string C1.text, .bool C1.fly, .slice s1.1 s1.2.1 s1.2.2, .bool C1.wait, .slice h1.1 h1.2.1 h1.2.2]
  replace oS := Lib.hid (own_only oS.out ho4 (fun k hk h_ => by rcases h_ with rfl; exact own_blk_ne oS.out ko (by decide) hk))
  replace oH := Lib.hid (own_only oH.out ho4 (fun k hk h_ => by rcases h_ with rfl; exact own_blk_ne oH.out ko (by decide) hk))
  replace ko := ko.row #[.int .i64 C1.who, .int .i64 C1.rev, .int .i64 C1.seq, .string C1.text, .bool C1.fly, .slice s1.1 s1.2.1 s1.2.2, .bool C1.wait, .slice h1.1 h1.2.1 h1.2.2]
  replace hb := below_setRow hb b #[.int .i64 C1.who, .int .i64 C1.rev, .int .i64 C1.seq, .string C1.text, .bool C1.fly, .slice s1.1 s1.2.1 s1.2.2, .bool C1.wait, .slice h1.1 h1.2.1 h1.2.2] (by omega)
  have hs4 : (v1.setRow b #[.int .i64 C1.who, .int .i64 C1.rev, .int .i64 C1.seq, .string C1.text, .bool C1.fly, .slice s1.1 s1.2.1 s1.2.2, .bool C1.wait, .slice h1.1 h1.2.1 h1.2.2]).heap.size = v1.heap.size := by simp
  generalize (v1.setRow b #[.int .i64 C1.who, .int .i64 C1.rev, .int .i64 C1.seq, .string C1.text, .bool C1.fly, .slice s1.1 s1.2.1 s1.2.2, .bool C1.wait, .slice h1.1 h1.2.1 h1.2.2]) = U4 at *
  replace hsz : g ≤ U4.heap.size := by omega
  replace lo := ko.lt
  go_wp2_with fail
  have hc := do_any o A2 n2 c2 g s U4 (Ho.out.below hb) hsz (by omega)
  rw [He2.out] at hc
  rw [HT.out] at hc
  refine (hc).mono ?_
  rintro e v5 ⟨rfl, hv5⟩
  replace ko := ko.below hv5 ko.lt
  replace lo := ko.lt
  replace oS := Lib.hid (own_below oS.out hv5)
  replace oH := Lib.hid (own_below oH.out hv5)
  replace hb := hb.trans (hv5.mono hsz)
  replace hsz : g ≤ v5.heap.size := Nat.le_trans hsz hv5.size
  clear hv5
  clear hc
  go_upto_region 10 with (fail)
  go_wp2_with (first | (refine wpList_load_blk rfl _ (.tmp 9) rfl b rfl _ (client_row ko rfl) ?_))
  have rS := rdS_ oS.out j3
  have rH := rdS_ oH.out j4
  have hc := cin_any C1 s1 h1 2 9 o A2 n2 c2 v5 K1.out rS rH ((Ho.out.below hb).more hsz) (by have := rS.1; omega) (by have := rH.1; omega) (by rw [K4.out]; decide) (by rw [K3.out]; decide)
  rw [HR.out, HE.out, K4.out] at hc
  refine hc.mono ?_
  clear hc rS rH
  rintro e v2 ⟨s2, h2, rfl, q1, q2, hv2⟩
  clear oS oH
  replace ko := ko.below hv2 ko.lt
  replace lo := ko.lt
  replace hb := hb.trans (hv2.mono hsz)
  replace hsz : g ≤ v2.heap.size := Nat.le_trans hsz hv2.size
  clear hv2
  have oS := Lib.hid q1
  have oH := Lib.hid q2
  clear q1 q2
  unfold clv clc
  simp only
  go_upto_region 13 with (fail)
  replace ko := ko.alloc (.cells #[.int .i64 C2.who, .int .i64 C2.rev, .int .i64 C2.seq, .string C2.text, .bool C2.fly, .slice s2.1 s2.2.1 s2.2.2, .bool C2.wait, .slice h2.1 h2.2.1 h2.2.2] 52)
  have kx := Blk.new v2 52 #[.int .i64 C2.who, .int .i64 C2.rev, .int .i64 C2.seq, .string C2.text, .bool C2.fly, .slice s2.1 s2.2.1 s2.2.2, .bool C2.wait, .slice h2.1 h2.2.1 h2.2.2]
  replace oS := Lib.hid (World.ownsRow.alloc oS.out (.cells #[.int .i64 C2.who, .int .i64 C2.rev, .int .i64 C2.seq, .string C2.text, .bool C2.fly, .slice s2.1 s2.2.1 s2.2.2, .bool C2.wait, .slice h2.1 h2.2.1 h2.2.2] 52))
  replace oH := Lib.hid (World.ownsRow.alloc oH.out (.cells #[.int .i64 C2.who, .int .i64 C2.rev, .int .i64 C2.seq, .string C2.text, .bool C2.fly, .slice s2.1 s2.2.1 s2.2.2, .bool C2.wait, .slice h2.1 h2.2.1 h2.2.2] 52))
  replace hb := hb.alloc hsz (.cells #[.int .i64 C2.who, .int .i64 C2.rev, .int .i64 C2.seq, .string C2.text, .bool C2.fly, .slice s2.1 s2.2.1 s2.2.2, .bool C2.wait, .slice h2.1 h2.2.1 h2.2.2] 52)
  have hs6 : (v2.alloc (.cells #[.int .i64 C2.who, .int .i64 C2.rev, .int .i64 C2.seq, .string C2.text, .bool C2.fly, .slice s2.1 s2.2.1 s2.2.2, .bool C2.wait, .slice h2.1 h2.2.1 h2.2.2] 52)).heap.size = v2.heap.size + 1 := by simp
  generalize (v2.alloc (.cells #[.int .i64 C2.who, .int .i64 C2.rev, .int .i64 C2.seq, .string C2.text, .bool C2.fly, .slice s2.1 s2.2.1 s2.2.2, .bool C2.wait, .slice h2.1 h2.2.1 h2.2.2] 52)) = U6 at *
  obtain ⟨x, hex⟩ : ∃ x, v2.heap.size = x := ⟨_, rfl⟩
  rw [hex] at kx ⊢
  have nb6 : g ≤ x := by omega
  replace hsz : g ≤ U6.heap.size := by omega
  have nq6_o : b < x := by omega
  have lx := kx.lt
  obtain ⟨i1, i2⟩ := ckok_len M1.out
  obtain ⟨i3, i4⟩ := ckok_txt M1.out
  have cx_5 := kx.cell 5
  go_wp2_with fail
  clear cx_5
  have hc := do_any C2.sent s2.1 s2.2.1 s2.2.2 _ T U6 (rdS_ oS.out i3) (Nat.le_refl _) (by omega)
  rw [M3.out, HU.out] at hc
  refine (hc).mono ?_
  rintro e v7 ⟨rfl, hv7⟩
  replace ko := ko.below hv7 ko.lt
  replace lo := ko.lt
  replace kx := kx.below hv7 kx.lt
  replace lx := kx.lt
  replace oS := Lib.hid (own_below oS.out hv7)
  replace oH := Lib.hid (own_below oH.out hv7)
  replace hb := hb.trans (hv7.mono hsz)
  replace hsz : g ≤ v7.heap.size := Nat.le_trans hsz hv7.size
  clear hv7
  clear hc
  have r8 := R8.out
  have cx_6 := kx.cell 6
  have cx_7 := kx.cell 7
  go_upto_region 15 with (fail)
  go_wp2_with fail
  clear cx_6 cx_7
  have hc := do_any C2.held h2.1 h2.2.1 h2.2.2 _ U v7 (rdS_ oH.out i4) (Nat.le_refl _) (by omega)
  rw [M5.out, ← M4.out] at hc
  refine (hc).mono ?_
  rintro e v8 ⟨rfl, hv8⟩
  replace ko := ko.below hv8 ko.lt
  replace lo := ko.lt
  replace kx := kx.below hv8 kx.lt
  replace lx := kx.lt
  replace oS := Lib.hid (own_below oS.out hv8)
  replace oH := Lib.hid (own_below oH.out hv8)
  replace hb := hb.trans (hv8.mono hsz)
  replace hsz : g ≤ v8.heap.size := Nat.le_trans hsz hv8.size
  clear hv8
  clear hc
  have r6 := R6.out
  have r7 := R7.out
  have cx_0 := kx.cell 0
  have cx_1 := kx.cell 1
  have cx_2 := kx.cell 2
  have cx_3 := kx.cell 3
  have cx_4 := kx.cell 4
  have cx_5 := kx.cell 5
  have cx_6 := kx.cell 6
  have cx_7 := kx.cell 7
  go_wp2_with fail
  clear cx_0 cx_1 cx_2 cx_3 cx_4 cx_5 cx_6 cx_7
  have hc := ccheck_good C2 s2 h2 v8 M1.out (rdS_ oS.out i3) (rdS_ oH.out i4)
  unfold clv clc at hc
  simp only [R6.out, R7.out, R8.out] at hc
  refine (hc).mono ?_
  rintro e v9 ⟨rfl, hv9⟩
  replace ko := ko.below hv9 ko.lt
  replace lo := ko.lt
  replace kx := kx.below hv9 kx.lt
  replace lx := kx.lt
  replace oS := Lib.hid (own_below oS.out hv9)
  replace oH := Lib.hid (own_below oH.out hv9)
  replace hb := hb.trans (hv9.mono hsz)
  replace hsz : g ≤ v9.heap.size := Nat.le_trans hsz hv9.size
  clear hv9
  clear hc
  go_wp2_with fail
  go_ret
  exact ⟨rfl, hbase ▸ hb⟩
theorem walk_ClientHolds (s : ByteArray) (hs : s.size ≤ 140737488351232) (v1 : Value) (d : List Pt) (v2 : Value) (f : List Pt) (v3 : Value) (o : List Pt) (w : World) (hx1 : IsParts w v1 d) (hx2 : IsParts w v2 f) (hx3 : IsParts w v3 o) :
    Calls Try.prog 6 #[.string s, v1, v2, v3] w fun e w' => e = .returned (.bool true) ∧ Below w.heap.size w w' := by
  obtain ⟨A, n, cp, rfl, hd⟩ := hx1
  obtain ⟨A', n', cp', rfl, hf⟩ := hx2
  obtain ⟨A2, n2, c2, rfl, ho⟩ := hx3
  by_cases he : doE d s = 0
  · by_cases he2 : doE o s = 0
    · have hk := hC_ok (f := f) he
      rcases in_cases hk.1 hk.2.1 he2 (by rw [hk.2.2.2.1]; decide) with hE | ⟨hE, -, -⟩
      · exact clientHolds_large s d f o A A' A2 n n' n2 cp cp' c2 w hd hf ho hs he he2 hE
      · cases hw : (hC s d f).wait with
        | false => exact clientHolds_idle s d f o A A' A2 n n' n2 cp cp' c2 w hd hf ho hs he he2 hE hw
        | true => exact clientHolds_held s d f o A A' A2 n n' n2 cp cp' c2 w hd hf ho hs he he2 hE hw
    · exact clientHolds_do s d f o A A' A2 n n' n2 cp cp' c2 w hd hf ho hs he he2
  · exact clientHolds_err s d f o A A' A2 n n' n2 cp cp' c2 w hd hf ho hs he
end Go.Proofs.Ytfncpcmaplhojaa