/- walk of scrivkeep.ClientOwns: a client that is handed in stays as it is, and what is answered shares nothing with it. -/
import Derived.Test.YtfncpcmaplhojaaMClientOwns16
import Derived.Test.YtfncpcmaplhojaaMClientOwns17
import Derived.Test.YtfncpcmaplhojaaMClientOwns15
import Derived.Test.YtfncpcmaplhojaaMClientOwns14
import Derived.Test.YtfncpcmaplhojaaMClientOwns11
namespace Go.Proofs.Ytfncpcmaplhojaa
open Go.ChangeShapes Go.WideShapes Go.RowKit
set_option linter.unusedVariables false
set_option linter.unusedSimpArgs false
set_option maxRecDepth 100000
set_option maxHeartbeats 4000000

theorem own_nil_cap {w : World} {B n c : Nat} {A : Option Addr} {l : List Pt} (h : OwnP w B (.slice A n c) l) (e : A = none) : c = 0 := by
  rcases h.2 with ⟨h1, _⟩ | ⟨g, cap, cur, h1, _⟩
  · injection h1
  · injection h1 with h1; rw [e] at h1; cases h1
theorem inR_small (c : Cl) (d : List Pt) (hf : c.fly = true) : chk (inR c d).sent = 0 ∨ (inR c d).sent = [] := by
  unfold inR
  split
  · show chk (in1S c d) = 0 ∨ in1S c d = []
    unfold in1S
    rw [if_pos hf]
    exact small_meetD _ _
  · exact .inr rfl
theorem own_num {w : World} {B n c : Nat} {A : Option Addr} {l : List Pt} (h : OwnP w B (.slice A n c) l) : n = l.length := by
  obtain ⟨A', c', e⟩ := h.form
  injection e
theorem sameclient_true (a r sq : Int) (t : ByteArray) (f q : Bool) (S H : List Pt) (A1 A2 A3 A4 : Option Addr) (n1 n2 n3 n4 c1 c2 c3 c4 : Nat) (w : World) (h1 : RdP w w.heap.size A1 n1 c1 S) (h2 : RdP w w.heap.size A2 n2 c2 H) (h3 : RdP w w.heap.size A3 n3 c3 S) (h4 : RdP w w.heap.size A4 n4 c4 H) :
    Calls Try.prog 35 #[.agg #[.int .i64 a, .int .i64 r, .int .i64 sq, .string t, .bool f, .slice A1 n1 c1, .bool q, .slice A2 n2 c2], .agg #[.int .i64 a, .int .i64 r, .int .i64 sq, .string t, .bool f, .slice A3 n3 c3, .bool q, .slice A4 n4 c4]] w fun e w' => e = .returned (.bool true) ∧ Below w.heap.size w w' := by
  have hb1 := (Below.refl w.heap.size w).alloc (Nat.le_refl _) (.cells #[.int .i64 a, .int .i64 r, .int .i64 sq, .string t, .bool f, .slice A1 n1 c1, .bool q, .slice A2 n2 c2] 52)
  have hb0 := hb1.alloc hb1.size (.cells #[.int .i64 a, .int .i64 r, .int .i64 sq, .string t, .bool f, .slice A3 n3 c3, .bool q, .slice A4 n4 c4] 52)
  have k1 := (Blk.new w 52 #[.int .i64 a, .int .i64 r, .int .i64 sq, .string t, .bool f, .slice A1 n1 c1, .bool q, .slice A2 n2 c2]).alloc (.cells #[.int .i64 a, .int .i64 r, .int .i64 sq, .string t, .bool f, .slice A3 n3 c3, .bool q, .slice A4 n4 c4] 52)
  have k2 := Blk.new (w.alloc (.cells #[.int .i64 a, .int .i64 r, .int .i64 sq, .string t, .bool f, .slice A1 n1 c1, .bool q, .slice A2 n2 c2] 52)) 52 #[.int .i64 a, .int .i64 r, .int .i64 sq, .string t, .bool f, .slice A3 n3 c3, .bool q, .slice A4 n4 c4]
  rw [World.size_alloc] at k2
  have H1 := Lib.hid (h1.step hb0)
  have H2 := Lib.hid (h2.step hb0)
  have H3 := Lib.hid (h3.step hb0)
  have H4 := Lib.hid (h4.step hb0)
  go_enter Try.func35, Try.ntmps35
  go_upto_region 1 with (fail)
  obtain ⟨W, hW⟩ : ∃ W, (w.alloc (.cells #[.int .i64 a, .int .i64 r, .int .i64 sq, .string t, .bool f, .slice A1 n1 c1, .bool q, .slice A2 n2 c2] 52)).alloc (.cells #[.int .i64 a, .int .i64 r, .int .i64 sq, .string t, .bool f, .slice A3 n3 c3, .bool q, .slice A4 n4 c4] 52) = W := ⟨_, rfl⟩
  rw [hW] at hb0 k1 k2 H1 H2 H3 H4 ⊢
  clear hW hb1 h1 h2 h3 h4
  have hsW := hb0.size
  obtain ⟨g, hg⟩ : ∃ g, w.heap.size = g := ⟨_, rfl⟩
  rw [hg] at k1 k2 hsW ⊢
  have l1 := k1.lt
  have l2 := k2.lt
  have a0 := k1.cell 0
  have b0 := k2.cell 0
  have a1 := k1.cell 1
  have b1 := k2.cell 1
  have a2 := k1.cell 2
  have b2 := k2.cell 2
  have a3 := k1.cell 3
  have b3 := k2.cell 3
  have a4 := k1.cell 4
  have b4 := k2.cell 4
  have a5 := k1.cell 5
  have b5 := k2.cell 5
  have a6 := k1.cell 6
  have b6 := k2.cell 6
  have a7 := k1.cell 7
  have b7 := k2.cell 7
  go_wp2_with fail
  refine (same_true S S A1 A3 n1 n3 c1 c3 _ _ W H1.out H3.out rfl).mono ?_
  rintro e w1 ⟨rfl, hb⟩
  replace hb0 := hb0.trans (hb.mono (by omega))
  replace H2 := Lib.hid (H2.out.step hb)
  replace H4 := Lib.hid (H4.out.step hb)
  replace k1 := k1.below hb l1
  replace k2 := k2.below hb l2
  have hs1 := hb.size
  clear hb a0 a1 a2 a3 a4 a5 a6 a7 b0 b1 b2 b3 b4 b5 b6 b7
  have l1 := k1.lt
  have l2 := k2.lt
  have a6 := k1.cell 6
  have b6 := k2.cell 6
  have a7 := k1.cell 7
  have b7 := k2.cell 7
  go_wp2_with fail
  refine (same_true H H A2 A4 n2 n4 c2 c4 _ _ w1 H2.out H4.out rfl).mono ?_
  rintro e w2 ⟨rfl, hb⟩
  go_wp2_with fail
  go_ret
  exact ⟨rfl, hg ▸ hb0.trans (hb.mono (by omega))⟩
theorem clientOwns_err (s : ByteArray) (d f d3 : List Pt) (A A' A3 : Option Addr) (n n' n3 cp cp' cp3 : Nat) (w : World) (hd : RdP w w.heap.size A n cp d) (hf : RdP w w.heap.size A' n' cp' f) (ho3 : RdP w w.heap.size A3 n3 cp3 d3) (hss : s.size ≤ 140737488351232) (he : doE d s ≠ 0) :
    Calls Try.prog 8 #[.string s, .slice A n cp, .slice A' n' cp', .slice A3 n3 cp3] w fun e w' => e = .returned (.bool true) ∧ Below w.heap.size w w' := by
  have Hd := Lib.hid hd
  have Hf := Lib.hid hf
  have Ho3 := Lib.hid ho3
  clear hd hf ho3
  obtain ⟨g, hbase⟩ : ∃ g, w.heap.size = g := ⟨_, rfl⟩
  have Ho30 := Lib.hid (hbase ▸ Ho3.out)
  clear Ho3
  have hb : Below g w w := Below.refl _ _
  have hsz : g ≤ w.heap.size := by omega
  rw [hbase]
  go_enter Try.func8, Try.ntmps8
  go_wp2_with fail
  refine (put_any ⟨#[97]⟩ (by decide) w).mono ?_
  rintro e v1 ⟨Ap, rfl, hp, hv1⟩
  replace Hd := Lib.hid (Hd.out.step hv1)
  replace Hf := Lib.hid (Hf.out.step hv1)
  replace hb := hb.trans (hv1.mono hsz)
  have hsz2 : g ≤ v1.heap.size := Nat.le_trans hsz hv1.size
  clear hsz hv1
  have hsz := hsz2
  clear hsz2
  have Hp := Lib.hid hp
  clear hp
  go_wp2_with fail
  have hc := all_any 1 v1
  rw [show allL 1 = [(1, 1, emp)] from rfl] at hc
  refine hc.mono ?_
  clear hc
  rintro e v2 ⟨Ak, ck, rfl, hk, hv2⟩
  replace Hd := Lib.hid (Hd.out.step hv2)
  replace Hf := Lib.hid (Hf.out.step hv2)
  replace Hp := Lib.hid (Hp.out.step hv2)
  replace hb := hb.trans (hv2.mono hsz)
  have hsz2 : g ≤ v2.heap.size := Nat.le_trans hsz hv2.size
  clear hsz hv2
  have hsz := hsz2
  clear hsz2
  have Hk := Lib.hid hk
  clear hk
  go_wp2_with fail
  have hc := hand_ok ⟨#[]⟩ [(2, 0, ⟨#[97]⟩)] [(1, 1, emp)] Ap Ak 1 1 1 ck v2 Hp.out Hk.out (by decide) (by decide)
  rw [show hC ⟨#[]⟩ [(2, 0, ⟨#[97]⟩)] [(1, 1, emp)] = ⟨1, 5, 4, ⟨#[97]⟩, true, [(2, 0, ⟨#[97]⟩)], true, [(1, 1, emp)]⟩ from rfl] at hc
  refine hc.mono ?_
  clear hc
  rintro e v3 ⟨sa, ha, rfl, -, -, hv3⟩
  replace Hd := Lib.hid (Hd.out.step hv3)
  replace Hf := Lib.hid (Hf.out.step hv3)
  replace Hp := Lib.hid (Hp.out.step hv3)
  replace Hk := Lib.hid (Hk.out.step hv3)
  replace hb := hb.trans (hv3.mono hsz)
  have hsz2 : g ≤ v3.heap.size := Nat.le_trans hsz hv3.size
  clear hsz hv3
  have hsz := hsz2
  clear hsz2
  clear Hp Hk
  unfold clv clc
  simp only
  go_upto_region 2 with (fail)
  have ko := Blk.new v3 52 #[.int .i64 1, .int .i64 5, .int .i64 4, .string ⟨#[97]⟩, .bool true, .slice sa.1 sa.2.1 sa.2.2, .bool true, .slice ha.1 ha.2.1 ha.2.2]
  have hbv := (Below.refl v3.heap.size v3).alloc (Nat.le_refl _) (.cells #[.int .i64 1, .int .i64 5, .int .i64 4, .string ⟨#[97]⟩, .bool true, .slice sa.1 sa.2.1 sa.2.2, .bool true, .slice ha.1 ha.2.1 ha.2.2] 52)
  obtain ⟨Ub, hUb⟩ : ∃ Ub, v3.alloc (.cells #[.int .i64 1, .int .i64 5, .int .i64 4, .string ⟨#[97]⟩, .bool true, .slice sa.1 sa.2.1 sa.2.2, .bool true, .slice ha.1 ha.2.1 ha.2.2] 52) = Ub := ⟨_, rfl⟩
  rw [hUb] at ko hbv ⊢
  clear hUb
  have hgo := hsz
  replace Hd := Lib.hid (Hd.out.step hbv)
  replace Hf := Lib.hid (Hf.out.step hbv)
  replace hb := hb.trans (hbv.mono hsz)
  have hsz2 : g ≤ Ub.heap.size := Nat.le_trans hsz hbv.size
  clear hsz hbv
  have hsz := hsz2
  clear hsz2
  obtain ⟨b, heb⟩ : ∃ b, v3.heap.size = b := ⟨_, rfl⟩
  rw [heb] at ko hgo ⊢
  have hgb : g ≤ b := hgo
  clear hgo
  have c3 := ko.cell 3
  have lo := ko.lt
  go_upto_region 4 with (fail)
  clear c3 lo
  go_wp2_with fail
  refine (hand_err s d f A A' n n' cp cp' Ub Hd.out Hf.out hss he).mono ?_
  rintro e v4 ⟨rfl, hv4⟩
  replace ko := ko.below hv4 ko.lt
  replace Hd := Lib.hid (Hd.out.step hv4)
  replace Hf := Lib.hid (Hf.out.step hv4)
  replace hb := hb.trans (hv4.mono hsz)
  have hsz2 : g ≤ v4.heap.size := Nat.le_trans hsz hv4.size
  clear hsz hv4
  have hsz := hsz2
  clear hsz2
  unfold clv clc
  simp only
  go_upto_region 6 with (first | (refine wpList_store_blk rfl _ (.tmp 9) (.tmp 40) rfl b #[.int .i64 0, .int .i64 0, .int .i64 0, .string ⟨#[]⟩, .bool false, .slice none 0 0, .bool false, .slice none 0 0] rfl rfl _ _ ko client_info rfl (by simp [Value.oneCell']) ?_))
  go_wp2_with fail
  go_ret
  exact ⟨rfl, hbase ▸ below_setRow hb b #[.int .i64 0, .int .i64 0, .int .i64 0, .string ⟨#[]⟩, .bool false, .slice none 0 0, .bool false, .slice none 0 0] (by omega)⟩
theorem clientOwns_ok (s : ByteArray) (d f d3 : List Pt) (A A' A3 : Option Addr) (n n' n3 cp cp' cp3 : Nat) (w : World) (hd : RdP w w.heap.size A n cp d) (hf : RdP w w.heap.size A' n' cp' f) (ho3 : RdP w w.heap.size A3 n3 cp3 d3) (hss : s.size ≤ 140737488351232) (he : doE d s = 0) :
    Calls Try.prog 8 #[.string s, .slice A n cp, .slice A' n' cp', .slice A3 n3 cp3] w fun e w' => e = .returned (.bool true) ∧ Below w.heap.size w w' := by
  obtain ⟨k1, -, k3, k4, k5, k6⟩ := hC_ok (f := f) he
  obtain ⟨C1, hC1⟩ : ∃ C1, hC s d f = C1 := ⟨_, rfl⟩
  rw [hC1] at k1 k3 k4 k5 k6
  obtain ⟨wh, rv, sq, T, fl, S, q, H⟩ := C1
  simp only at k3 k4 k5 k6
  subst k3; subst k4; subst k5; subst k6
  have hSk : chk S = 0 := (k1.sk rfl).1
  have hHk : chk H = 0 ∨ H = [] := by
    cases hq : q with
    | true => exact .inl (k1.hk hq).1
    | false => exact .inr (k1.held0 hq)
  have hSs := small_of (.inl hSk)
  have hHs := small_of hHk
  have hH0 := Lib.hid hHk
  have K1 := Lib.hid k1
  have HC1 := Lib.hid hC1
  have HSs := Lib.hid hSs
  have HHs := Lib.hid hHs
  clear k1 hC1 hSk hHk hSs hHs
  have Hd := Lib.hid hd
  have Hf := Lib.hid hf
  have Ho3 := Lib.hid ho3
  clear hd hf ho3
  obtain ⟨g, hbase⟩ : ∃ g, w.heap.size = g := ⟨_, rfl⟩
  have Ho30 := Lib.hid (hbase ▸ Ho3.out)
  clear Ho3
  have hb : Below g w w := Below.refl _ _
  have hsz : g ≤ w.heap.size := by omega
  rw [hbase]
  go_enter Try.func8, Try.ntmps8
  go_wp2_with fail
  refine (put_any ⟨#[97]⟩ (by decide) w).mono ?_
  rintro e v1 ⟨Ap, rfl, hp, hv1⟩
  replace Hd := Lib.hid (Hd.out.step hv1)
  replace Hf := Lib.hid (Hf.out.step hv1)
  replace hb := hb.trans (hv1.mono hsz)
  have hsz2 : g ≤ v1.heap.size := Nat.le_trans hsz hv1.size
  clear hsz hv1
  have hsz := hsz2
  clear hsz2
  have Hp := Lib.hid hp
  clear hp
  go_wp2_with fail
  have hc := all_any 1 v1
  rw [show allL 1 = [(1, 1, emp)] from rfl] at hc
  refine hc.mono ?_
  clear hc
  rintro e v2 ⟨Ak, ck, rfl, hk, hv2⟩
  replace Hd := Lib.hid (Hd.out.step hv2)
  replace Hf := Lib.hid (Hf.out.step hv2)
  replace Hp := Lib.hid (Hp.out.step hv2)
  replace hb := hb.trans (hv2.mono hsz)
  have hsz2 : g ≤ v2.heap.size := Nat.le_trans hsz hv2.size
  clear hsz hv2
  have hsz := hsz2
  clear hsz2
  have Hk := Lib.hid hk
  clear hk
  go_wp2_with fail
  have hc := hand_ok ⟨#[]⟩ [(2, 0, ⟨#[97]⟩)] [(1, 1, emp)] Ap Ak 1 1 1 ck v2 Hp.out Hk.out (by decide) (by decide)
  rw [show hC ⟨#[]⟩ [(2, 0, ⟨#[97]⟩)] [(1, 1, emp)] = ⟨1, 5, 4, ⟨#[97]⟩, true, [(2, 0, ⟨#[97]⟩)], true, [(1, 1, emp)]⟩ from rfl] at hc
  refine hc.mono ?_
  clear hc
  rintro e v3 ⟨sa, ha, rfl, -, -, hv3⟩
  replace Hd := Lib.hid (Hd.out.step hv3)
  replace Hf := Lib.hid (Hf.out.step hv3)
  replace Hp := Lib.hid (Hp.out.step hv3)
  replace Hk := Lib.hid (Hk.out.step hv3)
  replace hb := hb.trans (hv3.mono hsz)
  have hsz2 : g ≤ v3.heap.size := Nat.le_trans hsz hv3.size
  clear hsz hv3
  have hsz := hsz2
  clear hsz2
  clear Hp Hk
  unfold clv clc
  simp only
  go_upto_region 2 with (fail)
  have ko := Blk.new v3 52 #[.int .i64 1, .int .i64 5, .int .i64 4, .string ⟨#[97]⟩, .bool true, .slice sa.1 sa.2.1 sa.2.2, .bool true, .slice ha.1 ha.2.1 ha.2.2]
  have hbv := (Below.refl v3.heap.size v3).alloc (Nat.le_refl _) (.cells #[.int .i64 1, .int .i64 5, .int .i64 4, .string ⟨#[97]⟩, .bool true, .slice sa.1 sa.2.1 sa.2.2, .bool true, .slice ha.1 ha.2.1 ha.2.2] 52)
  obtain ⟨Ub, hUb⟩ : ∃ Ub, v3.alloc (.cells #[.int .i64 1, .int .i64 5, .int .i64 4, .string ⟨#[97]⟩, .bool true, .slice sa.1 sa.2.1 sa.2.2, .bool true, .slice ha.1 ha.2.1 ha.2.2] 52) = Ub := ⟨_, rfl⟩
  rw [hUb] at ko hbv ⊢
  clear hUb
  have hgo := hsz
  replace Hd := Lib.hid (Hd.out.step hbv)
  replace Hf := Lib.hid (Hf.out.step hbv)
  replace hb := hb.trans (hbv.mono hsz)
  have hsz2 : g ≤ Ub.heap.size := Nat.le_trans hsz hbv.size
  clear hsz hbv
  have hsz := hsz2
  clear hsz2
  obtain ⟨b, heb⟩ : ∃ b, v3.heap.size = b := ⟨_, rfl⟩
  rw [heb] at ko hgo ⊢
  have hgb : g ≤ b := hgo
  clear hgo
  have c3 := ko.cell 3
  have lo := ko.lt
  go_upto_region 4 with (fail)
  clear c3 lo
  go_wp2_with fail
  have hc := hand_ok s d f A A' n n' cp cp' Ub Hd.out Hf.out hss he
  rw [HC1.out] at hc
  refine hc.mono ?_
  clear hc
  rintro e v4 ⟨s1, h1, rfl, hs1, hh1, hv4⟩
  replace ko := ko.below hv4 ko.lt
  replace Hd := Lib.hid (Hd.out.step hv4)
  replace Hf := Lib.hid (Hf.out.step hv4)
  replace hb := hb.trans (hv4.mono hsz)
  have hsz2 : g ≤ v4.heap.size := Nat.le_trans hsz hv4.size
  clear hsz hv4
  have hsz := hsz2
  clear hsz2
  obtain ⟨As, ns, cs⟩ := s1
  obtain ⟨Ah, nh, ch⟩ := h1
  have hs1 : OwnP v4 Ub.heap.size (.slice As ns cs) S := hs1
  have hh1 : OwnP v4 Ub.heap.size (.slice Ah nh ch) H := hh1
  have oS := Lib.hid hs1
  have oH := Lib.hid hh1
  have hns : ns ≤ 1600 := by rw [own_num hs1]; exact HSs.out.1
  have hnh : nh ≤ 1600 := by rw [own_num hh1]; exact HHs.out.1
  have Hsn := Lib.hid (own_nil_cap hs1)
  have Hhn := Lib.hid (own_nil_cap hh1)
  have HnS := Lib.hid (own_num hs1)
  have HnH := Lib.hid (own_num hh1)
  clear hs1 hh1 Hd Hf
  unfold clv clc
  simp only
  go_upto_region 5 with (first | (refine wpList_store_blk rfl _ (.tmp 9) (.tmp 40) rfl b #[.int .i64 1, .int .i64 5, .int .i64 4, .string T, .bool true, .slice As ns cs, .bool q, .slice Ah nh ch] rfl rfl _ _ ko client_info rfl (by simp [Value.oneCell']) ?_))
  have lo := ko.lt
  have ho5 := Only.setRow v4 b #[.int .i64 1, .int .i64 5, .int .i64 4, .string T, .bool true, .slice As ns cs, .bool q, .slice Ah nh ch]
  have hqb : ∀ k, (Value.slice As ns cs).ownBlock = some k → ¬ k = b := fun k hk e => by rw [e] at hk; exact own_blk_ne oS.out ko (by decide) hk
  have hqh : ∀ k, (Value.slice Ah nh ch).ownBlock = some k → ¬ k = b := fun k hk e => by rw [e] at hk; exact own_blk_ne oH.out ko (by decide) hk
  replace oS := Lib.hid (own_only oS.out ho5 hqb)
  replace oH := Lib.hid (own_only oH.out ho5 hqh)
  replace ko := ko.row #[.int .i64 1, .int .i64 5, .int .i64 4, .string T, .bool true, .slice As ns cs, .bool q, .slice Ah nh ch]
  replace hb := below_setRow hb b #[.int .i64 1, .int .i64 5, .int .i64 4, .string T, .bool true, .slice As ns cs, .bool q, .slice Ah nh ch] (by omega)
  have hs5 : (v4.setRow b #[.int .i64 1, .int .i64 5, .int .i64 4, .string T, .bool true, .slice As ns cs, .bool q, .slice Ah nh ch]).heap.size = v4.heap.size := setRow_size _ _ _
  obtain ⟨V5, hV5⟩ : ∃ V5, v4.setRow b #[.int .i64 1, .int .i64 5, .int .i64 4, .string T, .bool true, .slice As ns cs, .bool q, .slice Ah nh ch] = V5 := ⟨_, rfl⟩
  rw [hV5] at oS oH ko hb hs5 ⊢
  replace hsz : g ≤ V5.heap.size := by omega
  clear hV5 ho5 hqb hqh hs5 lo
  go_upto_region 8 with (first | (refine wpList_load_blk rfl _ (.tmp 9) rfl b rfl _ (client_row ko rfl) ?_))
  have ki := Blk.new V5 52 #[.int .i64 1, .int .i64 5, .int .i64 4, .string T, .bool true, .slice As ns cs, .bool q, .slice Ah nh ch]
  have hbv := (Below.refl V5.heap.size V5).alloc (Nat.le_refl _) (.cells #[.int .i64 1, .int .i64 5, .int .i64 4, .string T, .bool true, .slice As ns cs, .bool q, .slice Ah nh ch] 52)
  obtain ⟨Ue, hUe⟩ : ∃ Ue, V5.alloc (.cells #[.int .i64 1, .int .i64 5, .int .i64 4, .string T, .bool true, .slice As ns cs, .bool q, .slice Ah nh ch] 52) = Ue := ⟨_, rfl⟩
  rw [hUe] at ki hbv ⊢
  clear hUe
  have lo5 := ko.lt
  have hszs0 := hsz
  replace ko := ko.below hbv ko.lt
  replace oS := Lib.hid (own_below oS.out hbv)
  replace oH := Lib.hid (own_below oH.out hbv)
  replace hb := hb.trans (hbv.mono hsz)
  have hsz2 : g ≤ Ue.heap.size := Nat.le_trans hsz hbv.size
  clear hsz hbv
  have hsz := hsz2
  clear hsz2
  obtain ⟨x0, hx0⟩ : ∃ x0, V5.heap.size = x0 := ⟨_, rfl⟩
  rw [hx0] at ki ⊢
  have li := ki.lt
  have lo := ko.lt
  rw [hx0] at lo5
  have hbx : b < x0 := lo5
  have KeepB := Lib.hid (fun (w' : World) (h : Blk w' b 52 #[.int .i64 1, .int .i64 5, .int .i64 4, .string T, .bool true, .slice As ns cs, .bool q, .slice Ah nh ch]) => (⟨h, h.cell 5, h.cell 7, h.lt⟩ : Blk w' b 52 #[.int .i64 1, .int .i64 5, .int .i64 4, .string T, .bool true, .slice As ns cs, .bool q, .slice Ah nh ch] ∧ w'.cell? ⟨b, 5, none⟩ = some (.slice As ns cs) ∧ w'.cell? ⟨b, 7, none⟩ = some (.slice Ah nh ch) ∧ b < w'.heap.size))
  have KeepS := Lib.hid (fun (w' : World) (h : Below Ue.heap.size Ue w') => KeepB.out w' (ko.below h lo))
  have KeepT := Lib.hid (fun (w' : World) (j : Nat) (u : Value) (h : Blk w' b 52 #[.int .i64 1, .int .i64 5, .int .i64 4, .string T, .bool true, .slice As ns cs, .bool q, .slice Ah nh ch] ∧ w'.cell? ⟨b, 5, none⟩ = some (.slice As ns cs) ∧ w'.cell? ⟨b, 7, none⟩ = some (.slice Ah nh ch) ∧ b < w'.heap.size) => KeepB.out (w'.setCell ⟨x0, j, none⟩ u) (h.1.far (p := ⟨x0, j, none⟩) (by simp only; omega) u))
  have G1 := Lib.hid (fun (w' : World) (h : Blk w' b 52 #[.int .i64 1, .int .i64 5, .int .i64 4, .string T, .bool true, .slice As ns cs, .bool q, .slice Ah nh ch] ∧ w'.cell? ⟨b, 5, none⟩ = some (.slice As ns cs) ∧ w'.cell? ⟨b, 7, none⟩ = some (.slice Ah nh ch) ∧ b < w'.heap.size) (hB : Below Ue.heap.size Ue w') => (mark_any w').mono (R' := fun e w'' => e = .returned (.agg #[.int .i64 9, .int .i64 0, .string ⟨#[109, 97, 114, 107]⟩]) ∧ (Blk w'' b 52 #[.int .i64 1, .int .i64 5, .int .i64 4, .string T, .bool true, .slice As ns cs, .bool q, .slice Ah nh ch] ∧ w''.cell? ⟨b, 5, none⟩ = some (.slice As ns cs) ∧ w''.cell? ⟨b, 7, none⟩ = some (.slice Ah nh ch) ∧ b < w''.heap.size) ∧ Below Ue.heap.size Ue w'' ∧ Below w'.heap.size w' w'') (fun e w'' hh => ⟨hh.1, KeepS.out _ (hB.trans (hh.2.mono hB.size)), hB.trans (hh.2.mono hB.size), hh.2⟩))
  have G2 : Hid (∀ (w' : World), (Blk w' b 52 #[.int .i64 1, .int .i64 5, .int .i64 4, .string T, .bool true, .slice As ns cs, .bool q, .slice Ah nh ch] ∧ w'.cell? ⟨b, 5, none⟩ = some (.slice As ns cs) ∧ w'.cell? ⟨b, 7, none⟩ = some (.slice Ah nh ch) ∧ b < w'.heap.size) → Below Ue.heap.size Ue w' → Calls Try.prog 25 #[.slice As ns cs, .agg #[.int .i64 9, .int .i64 0, .string ⟨#[109, 97, 114, 107]⟩]] w' (fun e w'' => ∃ gx, e = .returned (.slice (some ⟨gx, 0, none⟩) ns (ns + 3)) ∧ (Blk w'' b 52 #[.int .i64 1, .int .i64 5, .int .i64 4, .string T, .bool true, .slice As ns cs, .bool q, .slice Ah nh ch] ∧ w''.cell? ⟨b, 5, none⟩ = some (.slice As ns cs) ∧ w''.cell? ⟨b, 7, none⟩ = some (.slice Ah nh ch) ∧ b < w''.heap.size) ∧ Below Ue.heap.size Ue w'' ∧ Below w'.heap.size w' w'' ∧ Room w'' w'.heap.size gx ns (S ++ [mk9, mk9, mk9]) ∧ Ue.heap.size ≤ gx)) := Lib.hid (fun w' h hB => (roomy_any S mk9 As ns cs w' (rdS_ (own_below oS.out hB) HSs.out.2) (by omega) Hsn.out).mono (fun e w'' hh => by
    obtain ⟨gx, h1, h2, h3⟩ := hh
    exact ⟨gx, h1, KeepS.out _ (hB.trans (h3.mono hB.size)), hB.trans (h3.mono hB.size), h3, h2, Nat.le_trans hB.size h2.1⟩))
  have G3 : Hid (∀ (w' : World), (Blk w' b 52 #[.int .i64 1, .int .i64 5, .int .i64 4, .string T, .bool true, .slice As ns cs, .bool q, .slice Ah nh ch] ∧ w'.cell? ⟨b, 5, none⟩ = some (.slice As ns cs) ∧ w'.cell? ⟨b, 7, none⟩ = some (.slice Ah nh ch) ∧ b < w'.heap.size) → Below Ue.heap.size Ue w' → Calls Try.prog 25 #[.slice Ah nh ch, .agg #[.int .i64 9, .int .i64 0, .string ⟨#[109, 97, 114, 107]⟩]] w' (fun e w'' => ∃ gx, e = .returned (.slice (some ⟨gx, 0, none⟩) nh (nh + 3)) ∧ (Blk w'' b 52 #[.int .i64 1, .int .i64 5, .int .i64 4, .string T, .bool true, .slice As ns cs, .bool q, .slice Ah nh ch] ∧ w''.cell? ⟨b, 5, none⟩ = some (.slice As ns cs) ∧ w''.cell? ⟨b, 7, none⟩ = some (.slice Ah nh ch) ∧ b < w''.heap.size) ∧ Below Ue.heap.size Ue w'' ∧ Below w'.heap.size w' w'' ∧ Room w'' w'.heap.size gx nh (H ++ [mk9, mk9, mk9]) ∧ Ue.heap.size ≤ gx)) := Lib.hid (fun w' h hB => (roomy_any H mk9 Ah nh ch w' (rdS_ (own_below oH.out hB) HHs.out.2) (by omega) Hhn.out).mono (fun e w'' hh => by
    obtain ⟨gx, h1, h2, h3⟩ := hh
    exact ⟨gx, h1, KeepS.out _ (hB.trans (h3.mono hB.size)), hB.trans (h3.mono hB.size), h3, h2, Nat.le_trans hB.size h2.1⟩))
  have hS7 := KeepS.out Ue (Below.refl _ _)
  have Ki := Lib.hid ki
  have Ko := Lib.hid ko
  clear ki ko
  go_region_held3 (fun w' => Blk w' b 52 #[.int .i64 1, .int .i64 5, .int .i64 4, .string T, .bool true, .slice As ns cs, .bool q, .slice Ah nh ch] ∧ w'.cell? ⟨b, 5, none⟩ = some (.slice As ns cs) ∧ w'.cell? ⟨b, 7, none⟩ = some (.slice Ah nh ch) ∧ b < w'.heap.size) (first | with_reducible assumption | exact KeepS.out _ (Below.drew (Below.refl _ _)) | exact KeepS.out _ (by assumption) | exact KeepT.out _ _ _ (by assumption) | exact KeepS.out _ (Below.drew (by assumption)) | (go_split_ands; exact KeepS.out _ (by assumption)) | exact KeepT.out _ _ _ (KeepT.out _ _ _ (by assumption)))
    (first | (go_at_call 26; with_reducible refine (G1.out _ (by assumption) (by first | assumption | exact Below.drew (Below.refl _ _))).mono ?_; rintro e w8 ⟨rfl, hS8, hB8, hC8⟩) | (go_at_call 25; with_reducible refine (G2.out _ (by assumption) (by assumption)).mono ?_; rintro e w9 ⟨gx, rfl, hS9, hB9, hC9, hR9, hgx9⟩) | (go_at_call 25; with_reducible refine (G3.out _ (by assumption) (by assumption)).mono ?_; rintro e wb ⟨gy, rfl, hSb, hBb, hCb, hRb, hgyb⟩; have ki := Ki.out.below hBb li; have s5 := ki.cell 5; have s7 := ki.cell 7; have t5 := ki.frozen 5; have t7 := ki.frozen 7; have li9 := ki.lt))

  have hgxy : gx < gy := by have h1 := hR9.lt; have h2 := hC8.size; have h3 := hRb.1; omega
  have hx0g : x0 < gx := by omega
  have hgyl := hRb.lt
  have ho8 : Only wb ((wb.setCell ⟨x0, 5, none⟩ (.slice (some ⟨gx, 0, none⟩) ns (ns + 3))).setCell ⟨x0, 7, none⟩ (.slice (some ⟨gy, 0, none⟩) nh (nh + 3))) (fun k => k = x0) := (Only.setSelf wb x0 5 _).trans (Only.setSelf _ x0 7 _)
  have rX := Lib.hid (((hR9.step hC8).step hCb).only ho8 (by show ¬ gx = x0; omega))
  have rY := Lib.hid (hRb.only ho8 (by show ¬ gy = x0; omega))
  have kb0 := Ki.out.below hBb li
  have kib : Blk ((wb.setCell ⟨x0, 5, none⟩ (.slice (some ⟨gx, 0, none⟩) ns (ns + 3))).setCell ⟨x0, 7, none⟩ (.slice (some ⟨gy, 0, none⟩) nh (nh + 3))) x0 52 #[.int .i64 1, .int .i64 5, .int .i64 4, .string T, .bool true, .slice (some ⟨gx, 0, none⟩) ns (ns + 3), .bool q, .slice (some ⟨gy, 0, none⟩) nh (nh + 3)] := (kb0.set_ 5 (.slice (some ⟨gx, 0, none⟩) ns (ns + 3))).set_ 7 (.slice (some ⟨gy, 0, none⟩) nh (nh + 3))
  have kob := (Ko.out.below hBb lo).only ho8 (by show ¬ b = x0; omega)
  have qS := own_below oS.out hBb
  have qH := own_below oH.out hBb
  have oS2 := Lib.hid (own_only qS ho8 (fun k hk e => by have e : k = x0 := e; rw [e] at hk; exact own_blk_ne qS kb0 (by decide) hk))
  have oH2 := Lib.hid (own_only qH ho8 (fun k hk e => by have e : k = x0 := e; rw [e] at hk; exact own_blk_ne qH kb0 (by decide) hk))
  have hgx0 : g ≤ x0 := by rw [← hx0]; exact hszs0
  have hbwb := hb.trans (hBb.mono hsz)
  have hgwb : g ≤ wb.heap.size := by have := hBb.size; omega
  have hb8 := hbwb.trans (ho8.below hgwb (fun k hk => by have hk : k = x0 := hk; omega))
  have hs8 : ((wb.setCell ⟨x0, 5, none⟩ (.slice (some ⟨gx, 0, none⟩) ns (ns + 3))).setCell ⟨x0, 7, none⟩ (.slice (some ⟨gy, 0, none⟩) nh (nh + 3))).heap.size = wb.heap.size := by simp
  obtain ⟨V8, hV8⟩ : ∃ V8, ((wb.setCell ⟨x0, 5, none⟩ (.slice (some ⟨gx, 0, none⟩) ns (ns + 3))).setCell ⟨x0, 7, none⟩ (.slice (some ⟨gy, 0, none⟩) nh (nh + 3))) = V8 := ⟨_, rfl⟩
  rw [hV8] at rX rY kib kob oS2 oH2 hb8 hs8 ⊢
  clear KeepB KeepS KeepT G1 G2 G3 hS7 hS8 hS9 hSb oS oH hb hV8 ho8 kb0 qS qH hbwb s5 s7 t5 t7 li9 ki lo li hR9 hRb hC8 hCb hC9 hB8 hB9 hBb Ki Ko hsz
  have ki := kib
  have ko := kob
  have oS := oS2
  have oH := oH2
  have hb := hb8
  have hsz : g ≤ V8.heap.size := by omega
  rw [← hs8] at hgyl
  clear kib kob oS2 oH2 hb8 hs8
  go_wp2_with (first | (refine wpList_load_blk rfl _ (.tmp 11) rfl x0 rfl _ (client_row ki rfl) ?_))
  obtain ⟨zX, hzX⟩ : ∃ z, V8.heap.size = z := ⟨_, rfl⟩
  have hzX2 : gy < zX := by rw [← hzX]; exact rY.out.lt
  have hc := cin_any ⟨1, 5, 4, T, true, S, q, H⟩ (some ⟨gx, 0, none⟩, ns, ns + 3) (some ⟨gy, 0, none⟩, nh, nh + 3) 2 9 d3 A3 n3 cp3 V8 K1.out (rX.out.rd (rdS_ oS.out HSs.out.2) (by omega)) (rY.out.rd (rdS_ oH.out HHs.out.2) (by omega)) ((Ho30.out.below hb).more hsz) (by simp only; omega) (by simp only; omega) (by show (5 : Int) ≠ 2147483647; decide) (by show (2 : Int) ≠ 1; decide)
  have hsm := inR_small ⟨1, 5, 4, T, true, S, q, H⟩ d3 rfl
  obtain ⟨CX, hCX⟩ : ∃ CX, inR ⟨1, 5, 4, T, true, S, q, H⟩ d3 = CX := ⟨_, rfl⟩
  obtain ⟨EX, hEX⟩ : ∃ EX, inE ⟨1, 5, 4, T, true, S, q, H⟩ d3 = EX := ⟨_, rfl⟩
  rw [hCX, hEX] at hc
  rw [hCX] at hsm
  obtain ⟨xw, xr, xs, xt, xf, XS, xq, XH⟩ := CX
  simp only at hsm
  have hXs := small_of hsm
  have HXs := Lib.hid hXs
  clear hsm hXs hCX hEX
  refine hc.mono ?_
  clear hc
  rintro e vx ⟨sx, hx, rfl, hsx, -, hvx⟩
  replace ko := ko.below hvx ko.lt
  replace ki := ki.below hvx ki.lt
  replace oS := Lib.hid (own_below oS.out hvx)
  replace oH := Lib.hid (own_below oH.out hvx)
  replace rX := Lib.hid (rX.out.step hvx)
  replace rY := Lib.hid (rY.out.step hvx)
  replace hb := hb.trans (hvx.mono hsz)
  have hsz2 : g ≤ vx.heap.size := Nat.le_trans hsz hvx.size
  clear hsz hvx
  have hsz := hsz2
  clear hsz2
  obtain ⟨Ax, nx, cx⟩ := sx
  obtain ⟨Bx, mx, dx⟩ := hx
  have hsx : OwnP vx V8.heap.size (.slice Ax nx cx) XS := hsx
  rw [hzX] at hsx
  have hnx : nx ≤ 1600 := by rw [own_num hsx]; exact HXs.out.1
  have oX := Lib.hid hsx
  have HXl : Hid (∀ k, (Value.slice Ax nx cx).ownBlock = some k → k < vx.heap.size) := Lib.hid (own_lt hsx)
  clear hsx
  unfold clv clc
  simp only
  go_upto_region 10 with (first | (refine wpList_store_blk rfl _ (.tmp 12) (.tmp 60) rfl vx.heap.size #[.int .i64 xw, .int .i64 xr, .int .i64 xs, .string xt, .bool xf, .slice Ax nx cx, .bool xq, .slice Bx mx dx] rfl rfl _ _ (Blk.new vx _ _) client_info rfl (by simp [Value.oneCell']) ?_))
  have kx := (Blk.new vx 52 #[.int .i64 0, .int .i64 0, .int .i64 0, .string ⟨#[]⟩, .bool false, .slice none 0 0, .bool false, .slice none 0 0]).row #[.int .i64 xw, .int .i64 xr, .int .i64 xs, .string xt, .bool xf, .slice Ax nx cx, .bool xq, .slice Bx mx dx]
  have hbv := below_setRow ((Below.refl vx.heap.size vx).alloc (Nat.le_refl _) (.cells #[.int .i64 0, .int .i64 0, .int .i64 0, .string ⟨#[]⟩, .bool false, .slice none 0 0, .bool false, .slice none 0 0] 52)) vx.heap.size #[.int .i64 xw, .int .i64 xr, .int .i64 xs, .string xt, .bool xf, .slice Ax nx cx, .bool xq, .slice Bx mx dx] (Nat.le_refl _)
  obtain ⟨Ux1, hUx1⟩ : ∃ Ux1, (vx.alloc (.cells #[.int .i64 0, .int .i64 0, .int .i64 0, .string ⟨#[]⟩, .bool false, .slice none 0 0, .bool false, .slice none 0 0] 52)).setRow vx.heap.size #[.int .i64 xw, .int .i64 xr, .int .i64 xs, .string xt, .bool xf, .slice Ax nx cx, .bool xq, .slice Bx mx dx] = Ux1 := ⟨_, rfl⟩
  rw [hUx1] at kx hbv ⊢
  clear hUx1
  have hgo := hsz
  have hyo := rY.out.lt
  replace ko := ko.below hbv ko.lt
  replace ki := ki.below hbv ki.lt
  replace oS := Lib.hid (own_below oS.out hbv)
  replace oH := Lib.hid (own_below oH.out hbv)
  replace oX := Lib.hid (own_below oX.out hbv)
  replace rX := Lib.hid (rX.out.step hbv)
  replace rY := Lib.hid (rY.out.step hbv)
  replace hb := hb.trans (hbv.mono hsz)
  have hsz2 : g ≤ Ux1.heap.size := Nat.le_trans hsz hbv.size
  clear hsz hbv
  have hsz := hsz2
  clear hsz2
  obtain ⟨x1, hex1⟩ : ∃ x1, vx.heap.size = x1 := ⟨_, rfl⟩
  rw [hex1] at kx hgo hyo ⊢
  have hgx1 : g ≤ x1 := hgo
  have hyx1 : gy < x1 := hyo
  clear hgo hyo
  rw [hex1] at HXl
  go_wp2_with (first | (refine wpList_load_blk rfl _ (.tmp 11) rfl x0 rfl _ (client_row ki rfl) ?_))
  obtain ⟨zM, hzM⟩ : ∃ z, Ux1.heap.size = z := ⟨_, rfl⟩
  have hzM2 : gy < zM := by rw [← hzM]; exact rY.out.lt
  have hzM3 : x1 < zM := by rw [← hzM]; exact kx.lt
  have hc := cout_good ⟨1, 5, 4, T, true, S, q, H⟩ (some ⟨gx, 0, none⟩, ns, ns + 3) (some ⟨gy, 0, none⟩, nh, nh + 3) Ux1 K1.out (rX.out.rd (rdS_ oS.out HSs.out.2) (by omega)) (rY.out.rd (rdS_ oH.out HHs.out.2) (by omega)) (by simp only; omega) rfl
  refine hc.mono ?_
  clear hc
  rintro e vm ⟨dm, rfl, hdm, hvm⟩
  replace ko := ko.below hvm ko.lt
  replace ki := ki.below hvm ki.lt
  replace kx := kx.below hvm kx.lt
  replace oS := Lib.hid (own_below oS.out hvm)
  replace oH := Lib.hid (own_below oH.out hvm)
  replace oX := Lib.hid (own_below oX.out hvm)
  replace rX := Lib.hid (rX.out.step hvm)
  replace rY := Lib.hid (rY.out.step hvm)
  replace hb := hb.trans (hvm.mono hsz)
  have hsz2 : g ≤ vm.heap.size := Nat.le_trans hsz hvm.size
  clear hsz hvm
  have hsz := hsz2
  clear hsz2
  obtain ⟨Am, nm, cm⟩ := dm
  have hdm : OwnP vm Ux1.heap.size (.slice Am nm cm) S := hdm
  rw [hzM] at hdm
  have hnm : nm ≤ 1600 := by rw [own_num hdm]; exact HSs.out.1
  have oM := Lib.hid hdm
  clear hdm
  unfold mgv
  simp only
  go_upto_region 11 with (first | (refine wpList_store_blk rfl _ (.tmp 14) (.tmp 65) rfl vm.heap.size #[.int .i64 5, .int .i64 1, .int .i64 4, .slice Am nm cm] rfl rfl _ _ (Blk.new vm _ _) msg_info rfl (by simp [Value.oneCell']) ?_))
  have km := (Blk.new vm 58 #[.int .i64 0, .int .i64 0, .int .i64 0, .slice none 0 0]).row #[.int .i64 5, .int .i64 1, .int .i64 4, .slice Am nm cm]
  have hbv := below_setRow ((Below.refl vm.heap.size vm).alloc (Nat.le_refl _) (.cells #[.int .i64 0, .int .i64 0, .int .i64 0, .slice none 0 0] 58)) vm.heap.size #[.int .i64 5, .int .i64 1, .int .i64 4, .slice Am nm cm] (Nat.le_refl _)
  obtain ⟨Um1, hUm1⟩ : ∃ Um1, (vm.alloc (.cells #[.int .i64 0, .int .i64 0, .int .i64 0, .slice none 0 0] 58)).setRow vm.heap.size #[.int .i64 5, .int .i64 1, .int .i64 4, .slice Am nm cm] = Um1 := ⟨_, rfl⟩
  rw [hUm1] at km hbv ⊢
  clear hUm1
  have hgo := hsz
  have hyo := rY.out.lt
  replace ko := ko.below hbv ko.lt
  replace ki := ki.below hbv ki.lt
  replace kx := kx.below hbv kx.lt
  replace oS := Lib.hid (own_below oS.out hbv)
  replace oH := Lib.hid (own_below oH.out hbv)
  replace oX := Lib.hid (own_below oX.out hbv)
  replace oM := Lib.hid (own_below oM.out hbv)
  replace rX := Lib.hid (rX.out.step hbv)
  replace rY := Lib.hid (rY.out.step hbv)
  replace hb := hb.trans (hbv.mono hsz)
  have hsz2 : g ≤ Um1.heap.size := Nat.le_trans hsz hbv.size
  clear hsz hbv
  have hsz := hsz2
  clear hsz2
  obtain ⟨m1, hem1⟩ : ∃ m1, vm.heap.size = m1 := ⟨_, rfl⟩
  rw [hem1] at km hgo hyo ⊢
  have hgm1 : g ≤ m1 := hgo
  have hym1 : gy < m1 := hyo
  clear hgo hyo
  have i0 := ki.cell 0
  have i2 := ki.cell 2
  have li := ki.lt
  go_wp2_with (first | (refine wpList_load_blk rfl _ (.tmp 11) rfl x0 rfl _ (client_row ki rfl) ?_))
  clear i0 i2 li
  obtain ⟨zY, hzY⟩ : ∃ z, Um1.heap.size = z := ⟨_, rfl⟩
  have hzY2 : gy < zY := by rw [← hzY]; exact rY.out.lt
  have hzY3 : x1 < zY := by rw [← hzY]; exact kx.lt
  have hc := cin_own ⟨1, 5, 4, T, true, S, q, H⟩ (some ⟨gx, 0, none⟩, ns, ns + 3) (some ⟨gy, 0, none⟩, nh, nh + 3) [] none 0 0 Um1 K1.out (rX.out.rd (rdS_ oS.out HSs.out.2) (by omega)) (rY.out.rd (rdS_ oH.out HHs.out.2) (by omega)) (rdnil_ _ _) (by simp only; omega) (by simp only; omega) (by show (5 : Int) ≠ 2147483647; decide) (by decide) rfl (fun _ => by show (4 : Int) ≠ 2147483647; decide)
  obtain ⟨CY, hCY⟩ : ∃ CY, inO ⟨1, 5, 4, T, true, S, q, H⟩ = CY := ⟨_, rfl⟩
  have hYs := small_of (l := CY.sent) (by rw [← hCY]; exact hH0.out)
  rw [hCY] at hc
  obtain ⟨yw, yr, ys, yt, yf, YS, yq, YH⟩ := CY
  simp only at hYs
  have HYs := Lib.hid hYs
  clear hYs hCY
  refine hc.mono ?_
  clear hc
  rintro e vy ⟨sy, hy, rfl, hsy, -, hvy⟩
  replace ko := ko.below hvy ko.lt
  replace ki := ki.below hvy ki.lt
  replace kx := kx.below hvy kx.lt
  replace km := km.below hvy km.lt
  replace oS := Lib.hid (own_below oS.out hvy)
  replace oH := Lib.hid (own_below oH.out hvy)
  replace oX := Lib.hid (own_below oX.out hvy)
  replace oM := Lib.hid (own_below oM.out hvy)
  replace rX := Lib.hid (rX.out.step hvy)
  replace rY := Lib.hid (rY.out.step hvy)
  replace hb := hb.trans (hvy.mono hsz)
  have hsz2 : g ≤ vy.heap.size := Nat.le_trans hsz hvy.size
  clear hsz hvy
  have hsz := hsz2
  clear hsz2
  obtain ⟨Ay, ny, cy⟩ := sy
  obtain ⟨By, my, dy⟩ := hy
  have hsy : OwnP vy Um1.heap.size (.slice Ay ny cy) YS := hsy
  rw [hzY] at hsy
  have hny : ny ≤ 1600 := by rw [own_num hsy]; exact HYs.out.1
  have oY := Lib.hid hsy
  clear hsy
  unfold clv clc
  simp only
  go_upto_region 12 with (first | (refine wpList_store_blk rfl _ (.tmp 16) (.tmp 75) rfl vy.heap.size #[.int .i64 yw, .int .i64 yr, .int .i64 ys, .string yt, .bool yf, .slice Ay ny cy, .bool yq, .slice By my dy] rfl rfl _ _ (Blk.new vy _ _) client_info rfl (by simp [Value.oneCell']) ?_))
  have ky := (Blk.new vy 52 #[.int .i64 0, .int .i64 0, .int .i64 0, .string ⟨#[]⟩, .bool false, .slice none 0 0, .bool false, .slice none 0 0]).row #[.int .i64 yw, .int .i64 yr, .int .i64 ys, .string yt, .bool yf, .slice Ay ny cy, .bool yq, .slice By my dy]
  have hbv := below_setRow ((Below.refl vy.heap.size vy).alloc (Nat.le_refl _) (.cells #[.int .i64 0, .int .i64 0, .int .i64 0, .string ⟨#[]⟩, .bool false, .slice none 0 0, .bool false, .slice none 0 0] 52)) vy.heap.size #[.int .i64 yw, .int .i64 yr, .int .i64 ys, .string yt, .bool yf, .slice Ay ny cy, .bool yq, .slice By my dy] (Nat.le_refl _)
  obtain ⟨Uy1, hUy1⟩ : ∃ Uy1, (vy.alloc (.cells #[.int .i64 0, .int .i64 0, .int .i64 0, .string ⟨#[]⟩, .bool false, .slice none 0 0, .bool false, .slice none 0 0] 52)).setRow vy.heap.size #[.int .i64 yw, .int .i64 yr, .int .i64 ys, .string yt, .bool yf, .slice Ay ny cy, .bool yq, .slice By my dy] = Uy1 := ⟨_, rfl⟩
  rw [hUy1] at ky hbv ⊢
  clear hUy1
  have hgo := hsz
  have hyo := rY.out.lt
  replace ko := ko.below hbv ko.lt
  replace ki := ki.below hbv ki.lt
  replace kx := kx.below hbv kx.lt
  replace km := km.below hbv km.lt
  replace oS := Lib.hid (own_below oS.out hbv)
  replace oH := Lib.hid (own_below oH.out hbv)
  replace oX := Lib.hid (own_below oX.out hbv)
  replace oM := Lib.hid (own_below oM.out hbv)
  replace oY := Lib.hid (own_below oY.out hbv)
  replace rX := Lib.hid (rX.out.step hbv)
  replace rY := Lib.hid (rY.out.step hbv)
  replace hb := hb.trans (hbv.mono hsz)
  have hsz2 : g ≤ Uy1.heap.size := Nat.le_trans hsz hbv.size
  clear hsz hbv
  have hsz := hsz2
  clear hsz2
  obtain ⟨y1, hey1⟩ : ∃ y1, vy.heap.size = y1 := ⟨_, rfl⟩
  rw [hey1] at ky hgo hyo ⊢
  have hgy1 : g ≤ y1 := hgo
  have hyy1 : gy < y1 := hyo
  clear hgo hyo
  have hc := sameclient_true 1 5 4 T true q S H (some ⟨gx, 0, none⟩) (some ⟨gy, 0, none⟩) As Ah ns nh ns nh (ns + 3) (nh + 3) cs ch Uy1 (rX.out.rd (rdS_ oS.out HSs.out.2) (by omega)) (rY.out.rd (rdS_ oH.out HHs.out.2) (by omega)) (rdS_ oS.out HSs.out.2) (rdS_ oH.out HHs.out.2)
  have Hc := Lib.hid hc
  clear hc
  go_wp2_with (first | (refine wpList_load_blk rfl _ (.tmp 11) rfl x0 rfl _ (client_row ki rfl) ?_) | (refine wpList_load_blk rfl _ (.tmp 9) rfl b rfl _ (client_row ko rfl) ?_))
  refine Hc.out.mono ?_
  clear Hc
  rintro e v12 ⟨rfl, hv12⟩
  replace ko := ko.below hv12 ko.lt
  replace ki := ki.below hv12 ki.lt
  replace kx := kx.below hv12 kx.lt
  replace km := km.below hv12 km.lt
  replace ky := ky.below hv12 ky.lt
  replace oS := Lib.hid (own_below oS.out hv12)
  replace oH := Lib.hid (own_below oH.out hv12)
  replace oX := Lib.hid (own_below oX.out hv12)
  replace oM := Lib.hid (own_below oM.out hv12)
  replace oY := Lib.hid (own_below oY.out hv12)
  replace rX := Lib.hid (rX.out.step hv12)
  replace rY := Lib.hid (rY.out.step hv12)
  replace hb := hb.trans (hv12.mono hsz)
  have hsz2 : g ≤ v12.heap.size := Nat.le_trans hsz hv12.size
  clear hsz hv12
  have hsz := hsz2
  clear hsz2
  clear oS oH
  have i5 := ki.cell 5
  have li := ki.lt
  have hfa := filled_any S gx ns _ v12 rX.out HnS.out.symm (by omega)
  have Hfa := Lib.hid hfa
  clear hfa
  go_wp2_with fail
  refine Hfa.out.mono ?_
  clear Hfa i5 li
  rintro e v13 ⟨rfl, hv13⟩
  replace ko := ko.below hv13 ko.lt
  replace ki := ki.below hv13 ki.lt
  replace kx := kx.below hv13 kx.lt
  replace km := km.below hv13 km.lt
  replace ky := ky.below hv13 ky.lt
  replace oX := Lib.hid (own_below oX.out hv13)
  replace oM := Lib.hid (own_below oM.out hv13)
  replace oY := Lib.hid (own_below oY.out hv13)
  replace rX := Lib.hid (rX.out.step hv13)
  replace rY := Lib.hid (rY.out.step hv13)
  replace hb := hb.trans (hv13.mono hsz)
  have hsz2 : g ≤ v13.heap.size := Nat.le_trans hsz hv13.size
  clear hsz hv13
  have hsz := hsz2
  clear hsz2
  have i7 := ki.cell 7
  have li := ki.lt
  have hfa := filled_any H gy nh _ v13 rY.out HnH.out.symm (by omega)
  have Hfa := Lib.hid hfa
  clear hfa
  go_wp2_with fail
  refine Hfa.out.mono ?_
  clear Hfa i7 li
  rintro e v14 ⟨rfl, hv14⟩
  replace ko := ko.below hv14 ko.lt
  replace ki := ki.below hv14 ki.lt
  replace kx := kx.below hv14 kx.lt
  replace km := km.below hv14 km.lt
  replace ky := ky.below hv14 ky.lt
  replace oX := Lib.hid (own_below oX.out hv14)
  replace oM := Lib.hid (own_below oM.out hv14)
  replace oY := Lib.hid (own_below oY.out hv14)
  replace rX := Lib.hid (rX.out.step hv14)
  replace rY := Lib.hid (rY.out.step hv14)
  replace hb := hb.trans (hv14.mono hsz)
  have hsz2 : g ≤ v14.heap.size := Nat.le_trans hsz hv14.size
  clear hsz hv14
  have hsz := hsz2
  clear hsz2
  go_upto_region 14 with (fail)
  have a5 := kx.cell 5
  have b5 := ky.cell 5
  have d3_ := km.cell 3
  have lx := kx.lt
  have ly := ky.lt
  have lm := km.lt
  have KeepS := Lib.hid (fun (w' : World) (h : Below v14.heap.size v14 w') => (⟨h, by rw [h.cell lx]; exact a5, by rw [h.cell ly]; exact b5, by rw [h.cell lm]; exact d3_, Nat.lt_of_lt_of_le lx h.size, Nat.lt_of_lt_of_le ly h.size, Nat.lt_of_lt_of_le lm h.size⟩ : Below v14.heap.size v14 w' ∧ w'.cell? ⟨x1, 5, none⟩ = some (.slice Ax nx cx) ∧ w'.cell? ⟨y1, 5, none⟩ = some (.slice Ay ny cy) ∧ w'.cell? ⟨m1, 3, none⟩ = some (.slice Am nm cm) ∧ x1 < w'.heap.size ∧ y1 < w'.heap.size ∧ m1 < w'.heap.size))
  have G1 : Hid (∀ (w' : World), (Below v14.heap.size v14 w' ∧ w'.cell? ⟨x1, 5, none⟩ = some (.slice Ax nx cx) ∧ w'.cell? ⟨y1, 5, none⟩ = some (.slice Ay ny cy) ∧ w'.cell? ⟨m1, 3, none⟩ = some (.slice Am nm cm) ∧ x1 < w'.heap.size ∧ y1 < w'.heap.size ∧ m1 < w'.heap.size) → Calls Try.prog 36 #[.slice Ax nx cx] w' (fun e w'' => ∃ A5 n5 c5, e = .returned (.slice A5 n5 c5) ∧ (Below v14.heap.size v14 w'' ∧ w''.cell? ⟨x1, 5, none⟩ = some (.slice Ax nx cx) ∧ w''.cell? ⟨y1, 5, none⟩ = some (.slice Ay ny cy) ∧ w''.cell? ⟨m1, 3, none⟩ = some (.slice Am nm cm) ∧ x1 < w''.heap.size ∧ y1 < w''.heap.size ∧ m1 < w''.heap.size) ∧ Below w'.heap.size w' w'' ∧ OwnP w'' w'.heap.size (.slice A5 n5 c5) XS)) := Lib.hid (fun w' h => (cloneP_any XS Ax nx cx w' (rdS_ (own_below oX.out h.1) HXs.out.2) (by omega)).mono (fun e w'' hh => by
    obtain ⟨v5, h1, h2, h3⟩ := hh
    obtain ⟨A5, c5, h4⟩ := h2.form
    subst h4
    exact ⟨A5, _, c5, h1, KeepS.out _ (h.1.trans (h3.mono h.1.size)), h3, h2⟩))
  have G2 : Hid (∀ (w' : World), (Below v14.heap.size v14 w' ∧ w'.cell? ⟨x1, 5, none⟩ = some (.slice Ax nx cx) ∧ w'.cell? ⟨y1, 5, none⟩ = some (.slice Ay ny cy) ∧ w'.cell? ⟨m1, 3, none⟩ = some (.slice Am nm cm) ∧ x1 < w'.heap.size ∧ y1 < w'.heap.size ∧ m1 < w'.heap.size) → Calls Try.prog 36 #[.slice Ay ny cy] w' (fun e w'' => ∃ A5 n5 c5, e = .returned (.slice A5 n5 c5) ∧ (Below v14.heap.size v14 w'' ∧ w''.cell? ⟨x1, 5, none⟩ = some (.slice Ax nx cx) ∧ w''.cell? ⟨y1, 5, none⟩ = some (.slice Ay ny cy) ∧ w''.cell? ⟨m1, 3, none⟩ = some (.slice Am nm cm) ∧ x1 < w''.heap.size ∧ y1 < w''.heap.size ∧ m1 < w''.heap.size) ∧ Below w'.heap.size w' w'' ∧ OwnP w'' w'.heap.size (.slice A5 n5 c5) YS)) := Lib.hid (fun w' h => (cloneP_any YS Ay ny cy w' (rdS_ (own_below oY.out h.1) HYs.out.2) (by omega)).mono (fun e w'' hh => by
    obtain ⟨v5, h1, h2, h3⟩ := hh
    obtain ⟨A5, c5, h4⟩ := h2.form
    subst h4
    exact ⟨A5, _, c5, h1, KeepS.out _ (h.1.trans (h3.mono h.1.size)), h3, h2⟩))
  have G3 : Hid (∀ (w' : World), (Below v14.heap.size v14 w' ∧ w'.cell? ⟨x1, 5, none⟩ = some (.slice Ax nx cx) ∧ w'.cell? ⟨y1, 5, none⟩ = some (.slice Ay ny cy) ∧ w'.cell? ⟨m1, 3, none⟩ = some (.slice Am nm cm) ∧ x1 < w'.heap.size ∧ y1 < w'.heap.size ∧ m1 < w'.heap.size) → Calls Try.prog 36 #[.slice Am nm cm] w' (fun e w'' => ∃ A5 n5 c5, e = .returned (.slice A5 n5 c5) ∧ (Below v14.heap.size v14 w'' ∧ w''.cell? ⟨x1, 5, none⟩ = some (.slice Ax nx cx) ∧ w''.cell? ⟨y1, 5, none⟩ = some (.slice Ay ny cy) ∧ w''.cell? ⟨m1, 3, none⟩ = some (.slice Am nm cm) ∧ x1 < w''.heap.size ∧ y1 < w''.heap.size ∧ m1 < w''.heap.size) ∧ Below w'.heap.size w' w'' ∧ OwnP w'' w'.heap.size (.slice A5 n5 c5) S)) := Lib.hid (fun w' h => (cloneP_any S Am nm cm w' (rdS_ (own_below oM.out h.1) HSs.out.2) (by omega)).mono (fun e w'' hh => by
    obtain ⟨v5, h1, h2, h3⟩ := hh
    obtain ⟨A5, c5, h4⟩ := h2.form
    subst h4
    exact ⟨A5, _, c5, h1, KeepS.out _ (h.1.trans (h3.mono h.1.size)), h3, h2⟩))
  have hS7 := KeepS.out v14 (Below.refl _ _)
  clear a5 b5 d3_ lx ly lm
  go_region_held3 (fun w' => Below v14.heap.size v14 w' ∧ w'.cell? ⟨x1, 5, none⟩ = some (.slice Ax nx cx) ∧ w'.cell? ⟨y1, 5, none⟩ = some (.slice Ay ny cy) ∧ w'.cell? ⟨m1, 3, none⟩ = some (.slice Am nm cm) ∧ x1 < w'.heap.size ∧ y1 < w'.heap.size ∧ m1 < w'.heap.size) (first | with_reducible assumption | exact KeepS.out _ (Below.drew (Below.refl _ _)) | exact KeepS.out _ (by assumption) | exact KeepS.out _ (Below.drew (by assumption)) | (go_split_ands; exact KeepS.out _ (by assumption)))
    (first | (go_at_call 36; with_reducible refine (G1.out _ (by assumption)).mono ?_; rintro e wa ⟨Aa, na, ca, rfl, hSa, hCa, hOa⟩) | (go_at_call 36; with_reducible refine (G2.out _ (by assumption)).mono ?_; rintro e wb2 ⟨Ab, nb, cb, rfl, hSb, hCb, hOb⟩) | (go_at_call 36; with_reducible refine (G3.out _ (by assumption)).mono ?_; rintro e wk ⟨Ac, nc, cc, rfl, hSk, hCk, hOk⟩))
  have hv15 : Below v14.heap.size v14 wk := hSk.1
  have oA := Lib.hid (own_base (own_below (own_below hOa hCb) hCk) (show v14.heap.size ≤ v14.drew.heap.size from Nat.le_refl _))
  have oB := Lib.hid (own_base (own_below hOb hCk) (show v14.heap.size ≤ wa.heap.size from hSa.1.size))
  have oK := Lib.hid (own_base hOk (show v14.heap.size ≤ wb2.heap.size from hSb.1.size))
  have hna := own_num hOa
  have hnb := own_num hOb
  have hnk := own_num hOk
  have hn15 : na ≤ 1600 ∧ nb ≤ 1600 ∧ nc ≤ 1600 := by rw [hna, hnb, hnk]; exact ⟨HXs.out.1, HYs.out.1, HSs.out.1⟩
  have hyv : gy < v14.heap.size := rY.out.lt
  have hxv : x1 ≤ v14.heap.size := by have := kx.lt; omega
  clear KeepS G1 G2 G3 hS7 hSa hSb hSk hCa hCb hCk hOa hOb hOk hna hnb hnk
  replace ko := ko.below hv15 ko.lt
  replace ki := ki.below hv15 ki.lt
  replace kx := kx.below hv15 kx.lt
  replace km := km.below hv15 km.lt
  replace ky := ky.below hv15 ky.lt
  replace oX := Lib.hid (own_below oX.out hv15)
  replace oM := Lib.hid (own_below oM.out hv15)
  replace oY := Lib.hid (own_below oY.out hv15)
  replace rX := Lib.hid (rX.out.step hv15)
  replace rY := Lib.hid (rY.out.step hv15)
  replace hb := hb.trans (hv15.mono hsz)
  have hsz2 : g ≤ wk.heap.size := Nat.le_trans hsz hv15.size
  clear hsz hv15
  have hsz := hsz2
  clear hsz2
  obtain ⟨zA, hzA⟩ : ∃ z, v14.heap.size = z := ⟨_, rfl⟩
  rw [hzA] at oA oB oK hyv hxv
  have i5 := ki.cell 5
  have li := ki.lt
  have hsp := spoil_room (7, 0, ⟨#[]⟩) gx ns _ _ wk rX.out (by omega)
  have Hsp := Lib.hid hsp
  clear hsp
  go_wp2_with fail
  refine Hsp.out.mono ?_
  clear Hsp i5 li
  rintro e v15 ⟨rfl, hoW⟩
  have hgz : g ≤ gx := by omega
  replace ko := ko.only hoW (by show ¬ b = gx; omega)
  replace ki := ki.only hoW (by show ¬ x0 = gx; omega)
  replace kx := kx.only hoW (by show ¬ x1 = gx; omega)
  replace km := km.only hoW (by show ¬ m1 = gx; omega)
  replace ky := ky.only hoW (by show ¬ y1 = gx; omega)
  replace oX := Lib.hid (own_only oX.out hoW (fun k hk e => by have h9 := own_ge oX.out k hk; have e : k = gx := e; omega))
  replace oM := Lib.hid (own_only oM.out hoW (fun k hk e => by have h9 := own_ge oM.out k hk; have e : k = gx := e; omega))
  replace oY := Lib.hid (own_only oY.out hoW (fun k hk e => by have h9 := own_ge oY.out k hk; have e : k = gx := e; omega))
  replace oA := Lib.hid (own_only oA.out hoW (fun k hk e => by have h9 := own_ge oA.out k hk; have e : k = gx := e; omega))
  replace oB := Lib.hid (own_only oB.out hoW (fun k hk e => by have h9 := own_ge oB.out k hk; have e : k = gx := e; omega))
  replace oK := Lib.hid (own_only oK.out hoW (fun k hk e => by have h9 := own_ge oK.out k hk; have e : k = gx := e; omega))
  clear rX
  replace rY := Lib.hid (rY.out.only hoW (by show ¬ gy = gx; omega))
  replace hb := hb.trans (hoW.below hsz (fun k hk => by have hk : k = gx := hk; omega))
  have hsz2 : g ≤ v15.heap.size := Nat.le_trans hsz hoW.2.2.2.1
  clear hsz hoW
  have hsz := hsz2
  clear hsz2
  clear hgz
  have i7 := ki.cell 7
  have li := ki.lt
  have hsp := spoil_room (8, 0, ⟨#[]⟩) gy nh _ _ v15 rY.out (by omega)
  have Hsp := Lib.hid hsp
  clear hsp
  go_wp2_with fail
  refine Hsp.out.mono ?_
  clear Hsp i7 li
  rintro e v16 ⟨rfl, hoW⟩
  have hgz : g ≤ gy := by omega
  replace ko := ko.only hoW (by show ¬ b = gy; omega)
  replace ki := ki.only hoW (by show ¬ x0 = gy; omega)
  replace kx := kx.only hoW (by show ¬ x1 = gy; omega)
  replace km := km.only hoW (by show ¬ m1 = gy; omega)
  replace ky := ky.only hoW (by show ¬ y1 = gy; omega)
  replace oX := Lib.hid (own_only oX.out hoW (fun k hk e => by have h9 := own_ge oX.out k hk; have e : k = gy := e; omega))
  replace oM := Lib.hid (own_only oM.out hoW (fun k hk e => by have h9 := own_ge oM.out k hk; have e : k = gy := e; omega))
  replace oY := Lib.hid (own_only oY.out hoW (fun k hk e => by have h9 := own_ge oY.out k hk; have e : k = gy := e; omega))
  replace oA := Lib.hid (own_only oA.out hoW (fun k hk e => by have h9 := own_ge oA.out k hk; have e : k = gy := e; omega))
  replace oB := Lib.hid (own_only oB.out hoW (fun k hk e => by have h9 := own_ge oB.out k hk; have e : k = gy := e; omega))
  replace oK := Lib.hid (own_only oK.out hoW (fun k hk e => by have h9 := own_ge oK.out k hk; have e : k = gy := e; omega))
  clear rY
  replace hb := hb.trans (hoW.below hsz (fun k hk => by have hk : k = gy := hk; omega))
  have hsz2 : g ≤ v16.heap.size := Nat.le_trans hsz hoW.2.2.2.1
  clear hsz hoW
  have hsz := hsz2
  clear hsz2
  clear hgz
  have j0 := kx.cell 5
  have lj := kx.lt
  have hsa := same_true XS XS Ax Aa nx na cx ca _ _ v16 (rdS_ oX.out HXs.out.2) (rdS_ oA.out HXs.out.2) rfl
  have Hsa := Lib.hid hsa
  clear hsa
  go_wp2_with fail
  refine Hsa.out.mono ?_
  clear Hsa j0 lj
  rintro e v17 ⟨rfl, hv17⟩
  replace ko := ko.below hv17 ko.lt
  replace ki := ki.below hv17 ki.lt
  replace kx := kx.below hv17 kx.lt
  replace km := km.below hv17 km.lt
  replace ky := ky.below hv17 ky.lt
  replace oX := Lib.hid (own_below oX.out hv17)
  replace oM := Lib.hid (own_below oM.out hv17)
  replace oY := Lib.hid (own_below oY.out hv17)
  replace oA := Lib.hid (own_below oA.out hv17)
  replace oB := Lib.hid (own_below oB.out hv17)
  replace oK := Lib.hid (own_below oK.out hv17)
  replace hb := hb.trans (hv17.mono hsz)
  have hsz2 : g ≤ v17.heap.size := Nat.le_trans hsz hv17.size
  clear hsz hv17
  have hsz := hsz2
  clear hsz2
  have j0 := ky.cell 5
  have lj := ky.lt
  have hsa := same_true YS YS Ay Ab ny nb cy cb _ _ v17 (rdS_ oY.out HYs.out.2) (rdS_ oB.out HYs.out.2) rfl
  have Hsa := Lib.hid hsa
  clear hsa
  go_wp2_with fail
  refine Hsa.out.mono ?_
  clear Hsa j0 lj
  rintro e v18 ⟨rfl, hv18⟩
  replace ko := ko.below hv18 ko.lt
  replace ki := ki.below hv18 ki.lt
  replace kx := kx.below hv18 kx.lt
  replace km := km.below hv18 km.lt
  replace ky := ky.below hv18 ky.lt
  replace oX := Lib.hid (own_below oX.out hv18)
  replace oM := Lib.hid (own_below oM.out hv18)
  replace oY := Lib.hid (own_below oY.out hv18)
  replace oA := Lib.hid (own_below oA.out hv18)
  replace oB := Lib.hid (own_below oB.out hv18)
  replace oK := Lib.hid (own_below oK.out hv18)
  replace hb := hb.trans (hv18.mono hsz)
  have hsz2 : g ≤ v18.heap.size := Nat.le_trans hsz hv18.size
  clear hsz hv18
  have hsz := hsz2
  clear hsz2
  have j0 := km.cell 3
  have lj := km.lt
  have hsa := same_true S S Am Ac nm nc cm cc _ _ v18 (rdS_ oM.out HSs.out.2) (rdS_ oK.out HSs.out.2) rfl
  have Hsa := Lib.hid hsa
  clear hsa
  go_wp2_with fail
  refine Hsa.out.mono ?_
  clear Hsa j0 lj
  rintro e v19 ⟨rfl, hv19⟩
  replace ko := ko.below hv19 ko.lt
  replace ki := ki.below hv19 ki.lt
  replace kx := kx.below hv19 kx.lt
  replace km := km.below hv19 km.lt
  replace ky := ky.below hv19 ky.lt
  replace oX := Lib.hid (own_below oX.out hv19)
  replace oM := Lib.hid (own_below oM.out hv19)
  replace oY := Lib.hid (own_below oY.out hv19)
  replace oA := Lib.hid (own_below oA.out hv19)
  replace oB := Lib.hid (own_below oB.out hv19)
  replace oK := Lib.hid (own_below oK.out hv19)
  replace hb := hb.trans (hv19.mono hsz)
  have hsz2 : g ≤ v19.heap.size := Nat.le_trans hsz hv19.size
  clear hsz hv19
  have hsz := hsz2
  clear hsz2
  have j0 := kx.cell 5
  have lj := kx.lt
  have hsp := spoil_own (6, 0, ⟨#[]⟩) (.slice Ax nx cx) XS zX v19 oX.out
  have hge := own_ge oX.out
  have hbxs : ∀ k, (Value.slice Ax nx cx).ownBlock = some k → g ≤ k := fun k hk => by have := hge k hk; omega
  have hnb : ∀ (y : Nat) (ty : TypeId) (cs : Array Value), Blk v19 y ty cs → 45 ≠ ty → ¬ ((Value.slice Ax nx cx).ownBlock = some y) := fun y ty cs hk hne hy => own_blk_ne oX.out hk hne hy
  have Hsp := Lib.hid hsp
  clear hsp hge
  go_wp2_with fail
  refine Hsp.out.mono ?_
  clear Hsp j0 lj
  rintro e v20 ⟨rfl, hoW⟩
  replace ko := ko.only hoW (hnb _ _ _ ko (by decide))
  replace ki := ki.only hoW (hnb _ _ _ ki (by decide))
  replace kx := kx.only hoW (hnb _ _ _ kx (by decide))
  replace km := km.only hoW (hnb _ _ _ km (by decide))
  replace ky := ky.only hoW (hnb _ _ _ ky (by decide))
  clear oX
  replace oM := Lib.hid (own_only oM.out hoW (fun k hk e => by have h9 := own_ge oM.out k hk; have h8 := HXl.out k e; omega))
  replace oY := Lib.hid (own_only oY.out hoW (fun k hk e => by have h9 := own_ge oY.out k hk; have h8 := HXl.out k e; omega))
  clear oA
  replace oB := Lib.hid (own_only oB.out hoW (fun k hk e => by have h9 := own_ge oB.out k hk; have h8 := HXl.out k e; omega))
  replace oK := Lib.hid (own_only oK.out hoW (fun k hk e => by have h9 := own_ge oK.out k hk; have h8 := HXl.out k e; omega))
  replace hb := hb.trans (hoW.below hsz (hbxs))
  have hsz2 : g ≤ v20.heap.size := Nat.le_trans hsz hoW.2.2.2.1
  clear hsz hoW
  have hsz := hsz2
  clear hsz2
  clear hnb hbxs
  have j0 := ky.cell 5
  have lj := ky.lt
  have hsa := same_true YS YS Ay Ab ny nb cy cb _ _ v20 (rdS_ oY.out HYs.out.2) (rdS_ oB.out HYs.out.2) rfl
  have Hsa := Lib.hid hsa
  clear hsa
  go_wp2_with fail
  refine Hsa.out.mono ?_
  clear Hsa j0 lj
  rintro e v21 ⟨rfl, hv21⟩
  replace ko := ko.below hv21 ko.lt
  replace ki := ki.below hv21 ki.lt
  replace kx := kx.below hv21 kx.lt
  replace km := km.below hv21 km.lt
  replace ky := ky.below hv21 ky.lt
  replace oM := Lib.hid (own_below oM.out hv21)
  replace oY := Lib.hid (own_below oY.out hv21)
  replace oB := Lib.hid (own_below oB.out hv21)
  replace oK := Lib.hid (own_below oK.out hv21)
  replace hb := hb.trans (hv21.mono hsz)
  have hsz2 : g ≤ v21.heap.size := Nat.le_trans hsz hv21.size
  clear hsz hv21
  have hsz := hsz2
  clear hsz2
  have j0 := km.cell 3
  have lj := km.lt
  have hsa := same_true S S Am Ac nm nc cm cc _ _ v21 (rdS_ oM.out HSs.out.2) (rdS_ oK.out HSs.out.2) rfl
  have Hsa := Lib.hid hsa
  clear hsa
  go_wp2_with fail
  refine Hsa.out.mono ?_
  clear Hsa j0 lj
  rintro e v22 ⟨rfl, hv22⟩
  replace ko := ko.below hv22 ko.lt
  replace ki := ki.below hv22 ki.lt
  replace kx := kx.below hv22 kx.lt
  replace km := km.below hv22 km.lt
  replace ky := ky.below hv22 ky.lt
  replace oM := Lib.hid (own_below oM.out hv22)
  replace oY := Lib.hid (own_below oY.out hv22)
  replace oB := Lib.hid (own_below oB.out hv22)
  replace oK := Lib.hid (own_below oK.out hv22)
  replace hb := hb.trans (hv22.mono hsz)
  have hsz2 : g ≤ v22.heap.size := Nat.le_trans hsz hv22.size
  clear hsz hv22
  have hsz := hsz2
  clear hsz2
  go_wp2_with fail
  go_ret
  exact ⟨rfl, hbase ▸ hb⟩
theorem walk_ClientOwns (s : ByteArray) (hs : s.size ≤ 140737488351232) (v : Value) (d : List Pt) (v' : Value) (f : List Pt) (v3 : Value) (d3 : List Pt) (w : World) (hd : IsParts w v d) (hf : IsParts w v' f) (h3 : IsParts w v3 d3) :
    Calls Try.prog 8 #[.string s, v, v', v3] w fun e w' => e = .returned (.bool true) ∧ Below w.heap.size w w' := by
  obtain ⟨A, n, c, rfl, hd⟩ := hd
  obtain ⟨A', n', c', rfl, hf⟩ := hf
  obtain ⟨A3, n3, c3, rfl, h3⟩ := h3
  by_cases he : doE d s = 0
  · exact clientOwns_ok s d f d3 A A' A3 n n' n3 c c' c3 w hd hf h3 hs he
  · exact clientOwns_err s d f d3 A A' A3 n n' n3 c c' c3 w hd hf h3 hs he
end Go.Proofs.Ytfncpcmaplhojaa
