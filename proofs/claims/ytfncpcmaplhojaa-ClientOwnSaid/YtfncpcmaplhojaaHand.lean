/- Contract of scrivkeep's helper hand. -/
import Derived.Test.YtfncpcmaplhojaaCLaw
namespace Go.Proofs.Ytfncpcmaplhojaa
open Go.ChangeShapes Go.WideShapes Go.RowKit
set_option linter.unusedVariables false
set_option linter.unusedSimpArgs false
set_option maxRecDepth 100000
set_option maxHeartbeats 4000000

def c0 (s : ByteArray) : Cl := ⟨1, 5, 3, s, false, [], false, []⟩
/-- the hand behind two edits -/
def hC (s : ByteArray) (d f : List Pt) : Cl := if doE f (edL (c0 s) d).text = 0 then edL (edL (c0 s) d) f else edL (c0 s) d
theorem ckok_c0 {s : ByteArray} (h : s.size ≤ 500) : CkOk (c0 s) := ⟨by simp [c0], by simp [c0], by simp [c0], by simp [c0], by simp [c0], by simp [c0], h, fun _ => rfl, fun _ => rfl, fun x => by simp [c0] at x, fun x => by simp [c0] at x, fun x => by simp [c0] at x⟩
theorem chain_c0 (s : ByteArray) : Chain (c0 s) s := ⟨fun _ => rfl, fun x => by simp [c0] at x, fun x => by simp [c0] at x, fun x => by simp [c0] at x, fun x => by simp [c0] at x⟩
theorem hC_ok {s : ByteArray} {d f : List Pt} (h : doE d s = 0) : CkOk (hC s d f) ∧ Chain (hC s d f) s ∧ (hC s d f).who = 1 ∧ (hC s d f).rev = 5 ∧ (hC s d f).seq = 4 ∧ (hC s d f).fly = true := by
  have h5 := (do_chk h).2.2.2
  have k0 := ckok_c0 h5
  have k1 := ckok_edit k0 h (fun _ => by simp [c0])
  have n1 := chain_edit k0 (chain_c0 s) h
  have e1 : edL (c0 s) d = ⟨1, 5, 4, doS d s, true, d, false, []⟩ := rfl
  unfold hC
  rw [e1] at k1 n1 ⊢
  split
  · rename_i h2
    exact ⟨ckok_edit k1 h2 (fun x => by simp at x), chain_edit k1 n1 h2, rfl, rfl, rfl, rfl⟩
  · exact ⟨k1, n1, rfl, rfl, rfl, rfl⟩
theorem edit0_err (s : ByteArray) (d : List Pt) (A2 : Option Addr) (n2 c2 : Nat) (w : World) (hd : RdP w w.heap.size A2 n2 c2 d) (hss : s.size ≤ 140737488351232) (he : doE d s ≠ 0) :
    Calls Try.prog 69 #[.agg #[.int .i64 1, .int .i64 5, .int .i64 3, .string s, .bool false, .slice none 0 0, .bool false, .slice none 0 0], .slice A2 n2 c2] w fun e w' => ∃ E, E ≠ 0 ∧ e = .returned (.tuple #[clv ⟨0, 0, 0, ⟨#[]⟩, false, [], false, []⟩ (none, 0, 0) (none, 0, 0), .int .i64 E]) ∧ Below w.heap.size w w' := by
  by_cases h5 : s.size ≤ 500
  · have hk := ckok_c0 h5
    unfold c0 at hk
    refine (cedit_do 1 5 3 s false false [] [] none none 0 0 0 0 d A2 n2 c2 w hk ⟨rfl, Rd.nil _ _ _, by simp⟩ ⟨rfl, Rd.nil _ _ _, by simp⟩ hd (by decide) (by decide) he).mono ?_
    rintro e w' ⟨rfl, hb⟩
    exact ⟨_, he, rfl, hb⟩
  · refine (cedit_large 1 5 3 s false false none none 0 0 0 0 A2 n2 c2 w (by decide) (by decide) (by decide) (by decide) (by decide) (by decide) (by omega)).mono ?_
    rintro e w' ⟨rfl, hb⟩
    exact ⟨2, by decide, rfl, hb⟩
theorem rdnil_ (w : World) (B : Nat) : RdP w B none 0 0 [] := ⟨rfl, Rd.nil _ _ _, by simp⟩
theorem hand_err (s : ByteArray) (d f : List Pt) (A A' : Option Addr) (n n' cp cp' : Nat) (w : World) (hd : RdP w w.heap.size A n cp d) (hf : RdP w w.heap.size A' n' cp' f) (hss : s.size ≤ 140737488351232) (he : doE d s ≠ 0) :
    Calls Try.prog 31 #[.string s, .slice A n cp, .slice A' n' cp'] w fun e w' => e = .returned (.tuple #[clv ⟨0, 0, 0, ⟨#[]⟩, false, [], false, []⟩ (none, 0, 0) (none, 0, 0), .bool false]) ∧ Below w.heap.size w w' := by
  have Hd := Lib.hid hd
  clear hd hf
  have hb0 : Below w.heap.size w w := Below.refl _ _
  have hb1 := hb0.alloc hb0.size (.cells #[.int .i64 0, .int .i64 0, .int .i64 0, .string ⟨#[]⟩, .bool false, .slice none 0 0, .bool false, .slice none 0 0] 52)
  have kr := Blk.new w 52 #[.int .i64 0, .int .i64 0, .int .i64 0, .string ⟨#[]⟩, .bool false, .slice none 0 0, .bool false, .slice none 0 0]
  have hb2 := hb1.alloc hb1.size (.cells #[.int .i64 1, .int .i64 5, .int .i64 3, .string s, .bool false, .slice none 0 0, .bool false, .slice none 0 0] 52)
  replace kr := kr.alloc (.cells #[.int .i64 1, .int .i64 5, .int .i64 3, .string s, .bool false, .slice none 0 0, .bool false, .slice none 0 0] 52)
  have ko := Blk.new (w.alloc (.cells #[.int .i64 0, .int .i64 0, .int .i64 0, .string ⟨#[]⟩, .bool false, .slice none 0 0, .bool false, .slice none 0 0] 52)) 52 #[.int .i64 1, .int .i64 5, .int .i64 3, .string s, .bool false, .slice none 0 0, .bool false, .slice none 0 0]
  clear hb0 hb1
  have hb := hb2
  clear hb2
  simp only [World.size_alloc] at kr ko
  go_enter Try.func31, Try.ntmps31
  go_upto_region 2 with (fail)
  generalize ((w.alloc (.cells #[.int .i64 0, .int .i64 0, .int .i64 0, .string ⟨#[]⟩, .bool false, .slice none 0 0, .bool false, .slice none 0 0] 52)).alloc (.cells #[.int .i64 1, .int .i64 5, .int .i64 3, .string s, .bool false, .slice none 0 0, .bool false, .slice none 0 0] 52)) = W0 at *
  obtain ⟨g, hbase⟩ : ∃ g, w.heap.size = g := ⟨_, rfl⟩
  rw [hbase] at hb kr ko ⊢
  have hsz : g ≤ W0.heap.size := by have := hb.size; omega
  have lr := kr.lt
  have lo := ko.lt
  have Hd := Lib.hid (hbase ▸ Hd.out)
  go_wp2_with (first | (refine wpList_load_blk rfl _ (.tmp 8) rfl (g + 1) rfl _ (client_row ko rfl) ?_))
  refine (edit0_err s d A n cp W0 ((Hd.out.below hb).more hsz) hss he).mono ?_
  rintro e v1 ⟨E, hE, rfl, hv1⟩
  have hne : (E != 0) = true := by simpa using hE
  replace kr := kr.below hv1 kr.lt
  replace lr := kr.lt
  replace ko := ko.below hv1 ko.lt
  replace lo := ko.lt
  replace hb := hb.trans (hv1.mono hsz)
  replace hsz : g ≤ v1.heap.size := Nat.le_trans hsz hv1.size
  clear hv1
  unfold clv clc
  simp only
  go_upto_region 4 with (first | (refine wpList_store_blk rfl _ (.tmp 8) (.tmp 18) rfl (g + 1) #[.int .i64 0, .int .i64 0, .int .i64 0, .string ⟨#[]⟩, .bool false, .slice none 0 0, .bool false, .slice none 0 0] rfl rfl _ _ ko client_info rfl (by simp [Value.oneCell']) ?_))
  have ho2 := Only.setRow v1 (g + 1) #[.int .i64 0, .int .i64 0, .int .i64 0, .string ⟨#[]⟩, .bool false, .slice none 0 0, .bool false, .slice none 0 0]
  replace kr := kr.farRow (g' := g + 1) (by omega) #[.int .i64 0, .int .i64 0, .int .i64 0, .string ⟨#[]⟩, .bool false, .slice none 0 0, .bool false, .slice none 0 0]
  replace ko := ko.row #[.int .i64 0, .int .i64 0, .int .i64 0, .string ⟨#[]⟩, .bool false, .slice none 0 0, .bool false, .slice none 0 0]
  replace hb := below_setRow hb (g + 1) #[.int .i64 0, .int .i64 0, .int .i64 0, .string ⟨#[]⟩, .bool false, .slice none 0 0, .bool false, .slice none 0 0] (by omega)
  have hs2 : (v1.setRow (g + 1) #[.int .i64 0, .int .i64 0, .int .i64 0, .string ⟨#[]⟩, .bool false, .slice none 0 0, .bool false, .slice none 0 0]).heap.size = v1.heap.size := by simp
  generalize (v1.setRow (g + 1) #[.int .i64 0, .int .i64 0, .int .i64 0, .string ⟨#[]⟩, .bool false, .slice none 0 0, .bool false, .slice none 0 0]) = U2 at *
  replace hsz : g ≤ U2.heap.size := by omega
  replace lr := kr.lt
  replace lo := ko.lt
  go_wp2_with (first | (refine wpList_load_blk rfl _ (.tmp 8) rfl (g + 1) rfl _ (client_row ko rfl) ?_) | (refine wpList_store_blk rfl _ (.tmp 6) (.tmp 22) rfl g #[.int .i64 0, .int .i64 0, .int .i64 0, .string ⟨#[]⟩, .bool false, .slice none 0 0, .bool false, .slice none 0 0] rfl rfl _ _ kr client_info rfl (by simp [Value.oneCell']) ?_))
  have kz := kr.row #[.int .i64 0, .int .i64 0, .int .i64 0, .string ⟨#[]⟩, .bool false, .slice none 0 0, .bool false, .slice none 0 0]
  have hz := below_setRow hb g #[.int .i64 0, .int .i64 0, .int .i64 0, .string ⟨#[]⟩, .bool false, .slice none 0 0, .bool false, .slice none 0 0] (by omega)
  refine row_end2 rfl rfl rfl rfl (client_row kz rfl) ?_
  exact ⟨rfl, hbase ▸ hz⟩
theorem hand_two (s : ByteArray) (d f : List Pt) (A A' : Option Addr) (n n' cp cp' : Nat) (w : World) (hd : RdP w w.heap.size A n cp d) (hf : RdP w w.heap.size A' n' cp' f) (hss : s.size ≤ 140737488351232) (he : doE d s = 0) (he2 : doE f (edL (c0 s) d).text = 0) :
    Calls Try.prog 31 #[.string s, .slice A n cp, .slice A' n' cp'] w fun e w' => ∃ s1 h1 : Sl, e = .returned (.tuple #[clv (edL (edL (c0 s) d) f) s1 h1, .bool true]) ∧ OwnSl w' w.heap.size s1 (edL (edL (c0 s) d) f).sent ∧ OwnSl w' w.heap.size h1 (edL (edL (c0 s) d) f).held ∧ Below w.heap.size w w' := by
  have h5 := (do_chk he).2.2.2
  have k0 := ckok_c0 h5
  have k1 := ckok_edit k0 he (fun _ => by simp [c0])
  have hn : n ≤ 4000000 := by
    have h1 := (chk_parts (do_chk he).1).1
    have h2 := hd.1
    omega
  have Hd := Lib.hid hd
  have Hf := Lib.hid hf
  obtain ⟨C1, hC1⟩ : ∃ C1, edL (c0 s) d = C1 := ⟨_, rfl⟩
  have hcf : C1.fly = true := by rw [← hC1]; rfl
  rw [hC1] at k1 he2
  rw [hC1]
  have K0 := Lib.hid k0
  have K1 := Lib.hid k1
  have HC1 := Lib.hid hC1
  have He := Lib.hid he
  have He2 := Lib.hid he2
  have Hcf := Lib.hid hcf
  clear hd hf k0 k1 hC1 he he2 hcf
  obtain ⟨C2, hC2⟩ : ∃ C2, edL C1 f = C2 := ⟨_, rfl⟩
  rw [hC2]
  have HC2 := Lib.hid hC2
  clear hC2
  have hb0 : Below w.heap.size w w := Below.refl _ _
  have hb1 := hb0.alloc hb0.size (.cells #[.int .i64 0, .int .i64 0, .int .i64 0, .string ⟨#[]⟩, .bool false, .slice none 0 0, .bool false, .slice none 0 0] 52)
  have kr := Blk.new w 52 #[.int .i64 0, .int .i64 0, .int .i64 0, .string ⟨#[]⟩, .bool false, .slice none 0 0, .bool false, .slice none 0 0]
  have hb2 := hb1.alloc hb1.size (.cells #[.int .i64 1, .int .i64 5, .int .i64 3, .string s, .bool false, .slice none 0 0, .bool false, .slice none 0 0] 52)
  replace kr := kr.alloc (.cells #[.int .i64 1, .int .i64 5, .int .i64 3, .string s, .bool false, .slice none 0 0, .bool false, .slice none 0 0] 52)
  have ko := Blk.new (w.alloc (.cells #[.int .i64 0, .int .i64 0, .int .i64 0, .string ⟨#[]⟩, .bool false, .slice none 0 0, .bool false, .slice none 0 0] 52)) 52 #[.int .i64 1, .int .i64 5, .int .i64 3, .string s, .bool false, .slice none 0 0, .bool false, .slice none 0 0]
  clear hb0 hb1
  have hb := hb2
  clear hb2
  simp only [World.size_alloc] at kr ko
  go_enter Try.func31, Try.ntmps31
  go_upto_region 2 with (fail)
  generalize ((w.alloc (.cells #[.int .i64 0, .int .i64 0, .int .i64 0, .string ⟨#[]⟩, .bool false, .slice none 0 0, .bool false, .slice none 0 0] 52)).alloc (.cells #[.int .i64 1, .int .i64 5, .int .i64 3, .string s, .bool false, .slice none 0 0, .bool false, .slice none 0 0] 52)) = W0 at *
  obtain ⟨g, hbase⟩ : ∃ g, w.heap.size = g := ⟨_, rfl⟩
  rw [hbase] at hb kr ko ⊢
  have hsz : g ≤ W0.heap.size := by have := hb.size; omega
  have lr := kr.lt
  have lo := ko.lt
  have Hd := Lib.hid (hbase ▸ Hd.out)
  have Hf := Lib.hid (hbase ▸ Hf.out)
  go_wp2_with (first | (refine wpList_load_blk rfl _ (.tmp 8) rfl (g + 1) rfl _ (client_row ko rfl) ?_))
  have hc := cedit_good (c0 s) (none, 0, 0) (none, 0, 0) d A n cp W0 K0.out (rdnil_ _ _) (rdnil_ _ _) ((Hd.out.below hb).more hsz) (by decide) (by decide) He.out (fun _ => by simp [c0])
  rw [HC1.out] at hc
  refine hc.mono ?_
  clear hc
  rintro e v1 ⟨s1, h1, rfl, q1, q2, hv1⟩
  obtain ⟨Z, hZ⟩ : ∃ Z, W0.heap.size = Z := ⟨_, rfl⟩
  rw [hZ] at q1 q2
  have hgZ : g + 1 < Z := by omega
  obtain ⟨j1, j2⟩ := ckok_len K1.out
  obtain ⟨j3, j4⟩ := ckok_txt K1.out
  replace kr := kr.below hv1 kr.lt
  replace lr := kr.lt
  replace ko := ko.below hv1 ko.lt
  replace lo := ko.lt
  replace hb := hb.trans (hv1.mono hsz)
  replace hsz : g ≤ v1.heap.size := Nat.le_trans hsz hv1.size
  clear hv1
  have oS := Lib.hid q1
  have oH := Lib.hid q2
  clear q1 q2
  unfold clv clc
  simp only
  go_upto_region 5 with (first | (refine wpList_store_blk rfl _ (.tmp 8) (.tmp 18) rfl (g + 1) #[.int .i64 C1.who, .int .i64 C1.rev, .int .i64 C1.seq, .string C1.text, .bool C1.fly, .slice s1.1 s1.2.1 s1.2.2, .bool C1.wait, .slice h1.1 h1.2.1 h1.2.2] rfl rfl _ _ ko client_info rfl (by simp [Value.oneCell']) ?_))
  have ho1 := Only.setRow v1 (g + 1) #[.int .i64 C1.who, .int .i64 C1.rev, .int .i64 C1.seq, .string C1.text, .bool C1.fly, .slice s1.1 s1.2.1 s1.2.2, .bool C1.wait, .slice h1.1 h1.2.1 h1.2.2]
  replace oS := Lib.hid (own_only oS.out ho1 (fun k hk h_ => by rcases h_ with rfl; exact own_blk_ne oS.out ko (by decide) hk))
  replace oH := Lib.hid (own_only oH.out ho1 (fun k hk h_ => by rcases h_ with rfl; exact own_blk_ne oH.out ko (by decide) hk))
  replace kr := kr.farRow (g' := g + 1) (by omega) #[.int .i64 C1.who, .int .i64 C1.rev, .int .i64 C1.seq, .string C1.text, .bool C1.fly, .slice s1.1 s1.2.1 s1.2.2, .bool C1.wait, .slice h1.1 h1.2.1 h1.2.2]
  replace ko := ko.row #[.int .i64 C1.who, .int .i64 C1.rev, .int .i64 C1.seq, .string C1.text, .bool C1.fly, .slice s1.1 s1.2.1 s1.2.2, .bool C1.wait, .slice h1.1 h1.2.1 h1.2.2]
  replace hb := below_setRow hb (g + 1) #[.int .i64 C1.who, .int .i64 C1.rev, .int .i64 C1.seq, .string C1.text, .bool C1.fly, .slice s1.1 s1.2.1 s1.2.2, .bool C1.wait, .slice h1.1 h1.2.1 h1.2.2] (by omega)
  have hs1 : (v1.setRow (g + 1) #[.int .i64 C1.who, .int .i64 C1.rev, .int .i64 C1.seq, .string C1.text, .bool C1.fly, .slice s1.1 s1.2.1 s1.2.2, .bool C1.wait, .slice h1.1 h1.2.1 h1.2.2]).heap.size = v1.heap.size := by simp
  generalize (v1.setRow (g + 1) #[.int .i64 C1.who, .int .i64 C1.rev, .int .i64 C1.seq, .string C1.text, .bool C1.fly, .slice s1.1 s1.2.1 s1.2.2, .bool C1.wait, .slice h1.1 h1.2.1 h1.2.2]) = U1 at *
  replace hsz : g ≤ U1.heap.size := by omega
  replace lr := kr.lt
  replace lo := ko.lt
  have rS := rdS_ oS.out j3
  have rH := rdS_ oH.out j4
  go_wp2_with (first | (refine wpList_load_blk rfl _ (.tmp 8) rfl (g + 1) rfl _ (client_row ko rfl) ?_))
  have hc := cedit_good C1 s1 h1 f A' n' cp' U1 K1.out rS rH ((Hf.out.below hb).more hsz) (by have := rS.1; omega) (by have := rH.1; omega) He2.out (fun x => by rw [Hcf.out] at x; simp at x)
  rw [HC2.out] at hc
  refine hc.mono ?_
  clear hc
  rintro e v2 ⟨s2, h2, rfl, q1, q2, hv2⟩
  clear rS rH oS oH
  obtain ⟨Y, hY⟩ : ∃ Y, U1.heap.size = Y := ⟨_, rfl⟩
  rw [hY] at q1 q2
  have hgY : g + 1 < Y := by omega
  replace kr := kr.below hv2 kr.lt
  replace lr := kr.lt
  replace ko := ko.below hv2 ko.lt
  replace lo := ko.lt
  replace hb := hb.trans (hv2.mono hsz)
  replace hsz : g ≤ v2.heap.size := Nat.le_trans hsz hv2.size
  clear hv2
  have oS := Lib.hid q1
  have oH := Lib.hid q2
  clear q1 q2
  unfold clv clc
  simp only
  go_upto_region 6 with (fail)
  replace kr := kr.alloc (.cells #[.int .i64 C2.who, .int .i64 C2.rev, .int .i64 C2.seq, .string C2.text, .bool C2.fly, .slice s2.1 s2.2.1 s2.2.2, .bool C2.wait, .slice h2.1 h2.2.1 h2.2.2] 52)
  replace ko := ko.alloc (.cells #[.int .i64 C2.who, .int .i64 C2.rev, .int .i64 C2.seq, .string C2.text, .bool C2.fly, .slice s2.1 s2.2.1 s2.2.2, .bool C2.wait, .slice h2.1 h2.2.1 h2.2.2] 52)
  have kx := Blk.new v2 52 #[.int .i64 C2.who, .int .i64 C2.rev, .int .i64 C2.seq, .string C2.text, .bool C2.fly, .slice s2.1 s2.2.1 s2.2.2, .bool C2.wait, .slice h2.1 h2.2.1 h2.2.2]
  replace oS := Lib.hid (World.ownsRow.alloc oS.out (.cells #[.int .i64 C2.who, .int .i64 C2.rev, .int .i64 C2.seq, .string C2.text, .bool C2.fly, .slice s2.1 s2.2.1 s2.2.2, .bool C2.wait, .slice h2.1 h2.2.1 h2.2.2] 52))
  replace oH := Lib.hid (World.ownsRow.alloc oH.out (.cells #[.int .i64 C2.who, .int .i64 C2.rev, .int .i64 C2.seq, .string C2.text, .bool C2.fly, .slice s2.1 s2.2.1 s2.2.2, .bool C2.wait, .slice h2.1 h2.2.1 h2.2.2] 52))
  replace hb := hb.alloc hsz (.cells #[.int .i64 C2.who, .int .i64 C2.rev, .int .i64 C2.seq, .string C2.text, .bool C2.fly, .slice s2.1 s2.2.1 s2.2.2, .bool C2.wait, .slice h2.1 h2.2.1 h2.2.2] 52)
  have hs2 : (v2.alloc (.cells #[.int .i64 C2.who, .int .i64 C2.rev, .int .i64 C2.seq, .string C2.text, .bool C2.fly, .slice s2.1 s2.2.1 s2.2.2, .bool C2.wait, .slice h2.1 h2.2.1 h2.2.2] 52)).heap.size = v2.heap.size + 1 := by simp
  generalize (v2.alloc (.cells #[.int .i64 C2.who, .int .i64 C2.rev, .int .i64 C2.seq, .string C2.text, .bool C2.fly, .slice s2.1 s2.2.1 s2.2.2, .bool C2.wait, .slice h2.1 h2.2.1 h2.2.2] 52)) = U2 at *
  obtain ⟨b, heb⟩ : ∃ b, v2.heap.size = b := ⟨_, rfl⟩
  rw [heb] at kx ⊢
  have nb2 : g ≤ b := by omega
  replace hsz : g ≤ U2.heap.size := by omega
  have nq2_r : g < b := by omega
  have nq2_o : g + 1 < b := by omega
  have lx := kx.lt
  go_upto_region 8 with (first | (refine wpList_load_blk rfl _ (.tmp 10) rfl b rfl _ (client_row kx rfl) ?_) | (refine wpList_store_blk rfl _ (.tmp 8) (.tmp 31) rfl (g + 1) #[.int .i64 C2.who, .int .i64 C2.rev, .int .i64 C2.seq, .string C2.text, .bool C2.fly, .slice s2.1 s2.2.1 s2.2.2, .bool C2.wait, .slice h2.1 h2.2.1 h2.2.2] rfl rfl _ _ ko client_info rfl (by simp [Value.oneCell']) ?_))
  have ho3 := Only.setRow U2 (g + 1) #[.int .i64 C2.who, .int .i64 C2.rev, .int .i64 C2.seq, .string C2.text, .bool C2.fly, .slice s2.1 s2.2.1 s2.2.2, .bool C2.wait, .slice h2.1 h2.2.1 h2.2.2]
  replace oS := Lib.hid (own_only oS.out ho3 (fun k hk h_ => by rcases h_ with rfl; exact own_blk_ne oS.out ko (by decide) hk))
  replace oH := Lib.hid (own_only oH.out ho3 (fun k hk h_ => by rcases h_ with rfl; exact own_blk_ne oH.out ko (by decide) hk))
  replace kr := kr.farRow (g' := g + 1) (by omega) #[.int .i64 C2.who, .int .i64 C2.rev, .int .i64 C2.seq, .string C2.text, .bool C2.fly, .slice s2.1 s2.2.1 s2.2.2, .bool C2.wait, .slice h2.1 h2.2.1 h2.2.2]
  replace ko := ko.row #[.int .i64 C2.who, .int .i64 C2.rev, .int .i64 C2.seq, .string C2.text, .bool C2.fly, .slice s2.1 s2.2.1 s2.2.2, .bool C2.wait, .slice h2.1 h2.2.1 h2.2.2]
  replace kx := kx.farRow (g' := g + 1) (by omega) #[.int .i64 C2.who, .int .i64 C2.rev, .int .i64 C2.seq, .string C2.text, .bool C2.fly, .slice s2.1 s2.2.1 s2.2.2, .bool C2.wait, .slice h2.1 h2.2.1 h2.2.2]
  replace hb := below_setRow hb (g + 1) #[.int .i64 C2.who, .int .i64 C2.rev, .int .i64 C2.seq, .string C2.text, .bool C2.fly, .slice s2.1 s2.2.1 s2.2.2, .bool C2.wait, .slice h2.1 h2.2.1 h2.2.2] (by omega)
  have hs3 : (U2.setRow (g + 1) #[.int .i64 C2.who, .int .i64 C2.rev, .int .i64 C2.seq, .string C2.text, .bool C2.fly, .slice s2.1 s2.2.1 s2.2.2, .bool C2.wait, .slice h2.1 h2.2.1 h2.2.2]).heap.size = U2.heap.size := by simp
  generalize (U2.setRow (g + 1) #[.int .i64 C2.who, .int .i64 C2.rev, .int .i64 C2.seq, .string C2.text, .bool C2.fly, .slice s2.1 s2.2.1 s2.2.2, .bool C2.wait, .slice h2.1 h2.2.1 h2.2.2]) = U3 at *
  replace hsz : g ≤ U3.heap.size := by omega
  replace lr := kr.lt
  replace lo := ko.lt
  replace lx := kx.lt
  go_wp2_with (first | (refine wpList_load_blk rfl _ (.tmp 8) rfl (g + 1) rfl _ (client_row ko rfl) ?_) | (refine wpList_store_blk rfl _ (.tmp 6) (.tmp 32) rfl g #[.int .i64 C2.who, .int .i64 C2.rev, .int .i64 C2.seq, .string C2.text, .bool C2.fly, .slice s2.1 s2.2.1 s2.2.2, .bool C2.wait, .slice h2.1 h2.2.1 h2.2.2] rfl rfl _ _ kr client_info rfl (by simp [Value.oneCell']) ?_))
  have kz := kr.row #[.int .i64 C2.who, .int .i64 C2.rev, .int .i64 C2.seq, .string C2.text, .bool C2.fly, .slice s2.1 s2.2.1 s2.2.2, .bool C2.wait, .slice h2.1 h2.2.1 h2.2.2]
  have hz := below_setRow hb g #[.int .i64 C2.who, .int .i64 C2.rev, .int .i64 C2.seq, .string C2.text, .bool C2.fly, .slice s2.1 s2.2.1 s2.2.2, .bool C2.wait, .slice h2.1 h2.2.1 h2.2.2] (by omega)
  have hzo := Only.setRow U3 g #[.int .i64 C2.who, .int .i64 C2.rev, .int .i64 C2.seq, .string C2.text, .bool C2.fly, .slice s2.1 s2.2.1 s2.2.2, .bool C2.wait, .slice h2.1 h2.2.1 h2.2.2]
  have zS := own_only oS.out hzo (fun k hk h_ => by rcases h_ with rfl; exact own_blk_ne oS.out kr (by decide) hk)
  have zH := own_only oH.out hzo (fun k hk h_ => by rcases h_ with rfl; exact own_blk_ne oH.out kr (by decide) hk)
  refine row_end2 rfl rfl rfl rfl (client_row kz rfl) ?_
  exact ⟨s2, h2, rfl, own_base zS (by omega), own_base zH (by omega), hbase ▸ hz⟩
theorem hand_one (s : ByteArray) (d f : List Pt) (A A' : Option Addr) (n n' cp cp' : Nat) (w : World) (hd : RdP w w.heap.size A n cp d) (hf : RdP w w.heap.size A' n' cp' f) (hss : s.size ≤ 140737488351232) (he : doE d s = 0) (he2 : doE f (edL (c0 s) d).text ≠ 0) :
    Calls Try.prog 31 #[.string s, .slice A n cp, .slice A' n' cp'] w fun e w' => ∃ s1 h1 : Sl, e = .returned (.tuple #[clv (edL (c0 s) d) s1 h1, .bool true]) ∧ OwnSl w' w.heap.size s1 (edL (c0 s) d).sent ∧ OwnSl w' w.heap.size h1 (edL (c0 s) d).held ∧ Below w.heap.size w w' := by
  have h5 := (do_chk he).2.2.2
  have k0 := ckok_c0 h5
  have k1 := ckok_edit k0 he (fun _ => by simp [c0])
  have hn : n ≤ 4000000 := by
    have h1 := (chk_parts (do_chk he).1).1
    have h2 := hd.1
    omega
  have Hd := Lib.hid hd
  have Hf := Lib.hid hf
  obtain ⟨C1, hC1⟩ : ∃ C1, edL (c0 s) d = C1 := ⟨_, rfl⟩
  have hcf : C1.fly = true := by rw [← hC1]; rfl
  rw [hC1] at k1 he2
  rw [hC1]
  have K0 := Lib.hid k0
  have K1 := Lib.hid k1
  have HC1 := Lib.hid hC1
  have He := Lib.hid he
  have He2 := Lib.hid he2
  have Hcf := Lib.hid hcf
  clear hd hf k0 k1 hC1 he he2 hcf
  have hb0 : Below w.heap.size w w := Below.refl _ _
  have hb1 := hb0.alloc hb0.size (.cells #[.int .i64 0, .int .i64 0, .int .i64 0, .string ⟨#[]⟩, .bool false, .slice none 0 0, .bool false, .slice none 0 0] 52)
  have kr := Blk.new w 52 #[.int .i64 0, .int .i64 0, .int .i64 0, .string ⟨#[]⟩, .bool false, .slice none 0 0, .bool false, .slice none 0 0]
  have hb2 := hb1.alloc hb1.size (.cells #[.int .i64 1, .int .i64 5, .int .i64 3, .string s, .bool false, .slice none 0 0, .bool false, .slice none 0 0] 52)
  replace kr := kr.alloc (.cells #[.int .i64 1, .int .i64 5, .int .i64 3, .string s, .bool false, .slice none 0 0, .bool false, .slice none 0 0] 52)
  have ko := Blk.new (w.alloc (.cells #[.int .i64 0, .int .i64 0, .int .i64 0, .string ⟨#[]⟩, .bool false, .slice none 0 0, .bool false, .slice none 0 0] 52)) 52 #[.int .i64 1, .int .i64 5, .int .i64 3, .string s, .bool false, .slice none 0 0, .bool false, .slice none 0 0]
  clear hb0 hb1
  have hb := hb2
  clear hb2
  simp only [World.size_alloc] at kr ko
  go_enter Try.func31, Try.ntmps31
  go_upto_region 2 with (fail)
  generalize ((w.alloc (.cells #[.int .i64 0, .int .i64 0, .int .i64 0, .string ⟨#[]⟩, .bool false, .slice none 0 0, .bool false, .slice none 0 0] 52)).alloc (.cells #[.int .i64 1, .int .i64 5, .int .i64 3, .string s, .bool false, .slice none 0 0, .bool false, .slice none 0 0] 52)) = W0 at *
  obtain ⟨g, hbase⟩ : ∃ g, w.heap.size = g := ⟨_, rfl⟩
  rw [hbase] at hb kr ko ⊢
  have hsz : g ≤ W0.heap.size := by have := hb.size; omega
  have lr := kr.lt
  have lo := ko.lt
  have Hd := Lib.hid (hbase ▸ Hd.out)
  have Hf := Lib.hid (hbase ▸ Hf.out)
  go_wp2_with (first | (refine wpList_load_blk rfl _ (.tmp 8) rfl (g + 1) rfl _ (client_row ko rfl) ?_))
  have hc := cedit_good (c0 s) (none, 0, 0) (none, 0, 0) d A n cp W0 K0.out (rdnil_ _ _) (rdnil_ _ _) ((Hd.out.below hb).more hsz) (by decide) (by decide) He.out (fun _ => by simp [c0])
  rw [HC1.out] at hc
  refine hc.mono ?_
  clear hc
  rintro e v1 ⟨s1, h1, rfl, q1, q2, hv1⟩
  obtain ⟨Z, hZ⟩ : ∃ Z, W0.heap.size = Z := ⟨_, rfl⟩
  rw [hZ] at q1 q2
  have hgZ : g + 1 < Z := by omega
  obtain ⟨j1, j2⟩ := ckok_len K1.out
  obtain ⟨j3, j4⟩ := ckok_txt K1.out
  replace kr := kr.below hv1 kr.lt
  replace lr := kr.lt
  replace ko := ko.below hv1 ko.lt
  replace lo := ko.lt
  replace hb := hb.trans (hv1.mono hsz)
  replace hsz : g ≤ v1.heap.size := Nat.le_trans hsz hv1.size
  clear hv1
  have oS := Lib.hid q1
  have oH := Lib.hid q2
  clear q1 q2
  unfold clv clc
  simp only
  go_upto_region 5 with (first | (refine wpList_store_blk rfl _ (.tmp 8) (.tmp 18) rfl (g + 1) #[.int .i64 C1.who, .int .i64 C1.rev, .int .i64 C1.seq, .string C1.text, .bool C1.fly, .slice s1.1 s1.2.1 s1.2.2, .bool C1.wait, .slice h1.1 h1.2.1 h1.2.2] rfl rfl _ _ ko client_info rfl (by simp [Value.oneCell']) ?_))
  have ho1 := Only.setRow v1 (g + 1) #[.int .i64 C1.who, .int .i64 C1.rev, .int .i64 C1.seq, .string C1.text, .bool C1.fly, .slice s1.1 s1.2.1 s1.2.2, .bool C1.wait, .slice h1.1 h1.2.1 h1.2.2]
  replace oS := Lib.hid (own_only oS.out ho1 (fun k hk h_ => by rcases h_ with rfl; exact own_blk_ne oS.out ko (by decide) hk))
  replace oH := Lib.hid (own_only oH.out ho1 (fun k hk h_ => by rcases h_ with rfl; exact own_blk_ne oH.out ko (by decide) hk))
  replace kr := kr.farRow (g' := g + 1) (by omega) #[.int .i64 C1.who, .int .i64 C1.rev, .int .i64 C1.seq, .string C1.text, .bool C1.fly, .slice s1.1 s1.2.1 s1.2.2, .bool C1.wait, .slice h1.1 h1.2.1 h1.2.2]
  replace ko := ko.row #[.int .i64 C1.who, .int .i64 C1.rev, .int .i64 C1.seq, .string C1.text, .bool C1.fly, .slice s1.1 s1.2.1 s1.2.2, .bool C1.wait, .slice h1.1 h1.2.1 h1.2.2]
  replace hb := below_setRow hb (g + 1) #[.int .i64 C1.who, .int .i64 C1.rev, .int .i64 C1.seq, .string C1.text, .bool C1.fly, .slice s1.1 s1.2.1 s1.2.2, .bool C1.wait, .slice h1.1 h1.2.1 h1.2.2] (by omega)
  have hs1 : (v1.setRow (g + 1) #[.int .i64 C1.who, .int .i64 C1.rev, .int .i64 C1.seq, .string C1.text, .bool C1.fly, .slice s1.1 s1.2.1 s1.2.2, .bool C1.wait, .slice h1.1 h1.2.1 h1.2.2]).heap.size = v1.heap.size := by simp
  generalize (v1.setRow (g + 1) #[.int .i64 C1.who, .int .i64 C1.rev, .int .i64 C1.seq, .string C1.text, .bool C1.fly, .slice s1.1 s1.2.1 s1.2.2, .bool C1.wait, .slice h1.1 h1.2.1 h1.2.2]) = U1 at *
  replace hsz : g ≤ U1.heap.size := by omega
  replace lr := kr.lt
  replace lo := ko.lt
  have rS := rdS_ oS.out j3
  have rH := rdS_ oH.out j4
  go_wp2_with (first | (refine wpList_load_blk rfl _ (.tmp 8) rfl (g + 1) rfl _ (client_row ko rfl) ?_))
  have hc := cedit_do C1.who C1.rev C1.seq C1.text C1.fly C1.wait C1.sent C1.held s1.1 h1.1 s1.2.1 h1.2.1 s1.2.2 h1.2.2 f A' n' cp' U1 K1.out rS rH ((Hf.out.below hb).more hsz) (by have := rS.1; omega) (by have := rH.1; omega) He2.out
  have hne : (doE f C1.text == 0) = false := by simpa using He2.out
  refine hc.mono ?_
  clear hc rS rH
  rintro e v2 ⟨rfl, hv2⟩
  replace kr := kr.below hv2 kr.lt
  replace lr := kr.lt
  replace ko := ko.below hv2 ko.lt
  replace lo := ko.lt
  replace oS := Lib.hid (own_below oS.out hv2)
  replace oH := Lib.hid (own_below oH.out hv2)
  replace hb := hb.trans (hv2.mono hsz)
  replace hsz : g ≤ v2.heap.size := Nat.le_trans hsz hv2.size
  clear hv2
  unfold clv clc
  simp only
  go_upto_region 6 with (fail)
  replace kr := kr.alloc (.cells #[.int .i64 0, .int .i64 0, .int .i64 0, .string ⟨#[]⟩, .bool false, .slice none 0 0, .bool false, .slice none 0 0] 52)
  replace ko := ko.alloc (.cells #[.int .i64 0, .int .i64 0, .int .i64 0, .string ⟨#[]⟩, .bool false, .slice none 0 0, .bool false, .slice none 0 0] 52)
  have kx := Blk.new v2 52 #[.int .i64 0, .int .i64 0, .int .i64 0, .string ⟨#[]⟩, .bool false, .slice none 0 0, .bool false, .slice none 0 0]
  replace oS := Lib.hid (World.ownsRow.alloc oS.out (.cells #[.int .i64 0, .int .i64 0, .int .i64 0, .string ⟨#[]⟩, .bool false, .slice none 0 0, .bool false, .slice none 0 0] 52))
  replace oH := Lib.hid (World.ownsRow.alloc oH.out (.cells #[.int .i64 0, .int .i64 0, .int .i64 0, .string ⟨#[]⟩, .bool false, .slice none 0 0, .bool false, .slice none 0 0] 52))
  replace hb := hb.alloc hsz (.cells #[.int .i64 0, .int .i64 0, .int .i64 0, .string ⟨#[]⟩, .bool false, .slice none 0 0, .bool false, .slice none 0 0] 52)
  have hs2 : (v2.alloc (.cells #[.int .i64 0, .int .i64 0, .int .i64 0, .string ⟨#[]⟩, .bool false, .slice none 0 0, .bool false, .slice none 0 0] 52)).heap.size = v2.heap.size + 1 := by simp
  generalize (v2.alloc (.cells #[.int .i64 0, .int .i64 0, .int .i64 0, .string ⟨#[]⟩, .bool false, .slice none 0 0, .bool false, .slice none 0 0] 52)) = U2 at *
  obtain ⟨b, heb⟩ : ∃ b, v2.heap.size = b := ⟨_, rfl⟩
  rw [heb] at kx ⊢
  have nb2 : g ≤ b := by omega
  replace hsz : g ≤ U2.heap.size := by omega
  have nq2_r : g < b := by omega
  have nq2_o : g + 1 < b := by omega
  have lx := kx.lt
  go_upto_region 8 with (fail)
  go_wp2_with (first | (refine wpList_load_blk rfl _ (.tmp 8) rfl (g + 1) rfl _ (client_row ko rfl) ?_) | (refine wpList_store_blk rfl _ (.tmp 6) (.tmp 32) rfl g #[.int .i64 C1.who, .int .i64 C1.rev, .int .i64 C1.seq, .string C1.text, .bool C1.fly, .slice s1.1 s1.2.1 s1.2.2, .bool C1.wait, .slice h1.1 h1.2.1 h1.2.2] rfl rfl _ _ kr client_info rfl (by simp [Value.oneCell']) ?_))
  have kz := kr.row #[.int .i64 C1.who, .int .i64 C1.rev, .int .i64 C1.seq, .string C1.text, .bool C1.fly, .slice s1.1 s1.2.1 s1.2.2, .bool C1.wait, .slice h1.1 h1.2.1 h1.2.2]
  have hz := below_setRow hb g #[.int .i64 C1.who, .int .i64 C1.rev, .int .i64 C1.seq, .string C1.text, .bool C1.fly, .slice s1.1 s1.2.1 s1.2.2, .bool C1.wait, .slice h1.1 h1.2.1 h1.2.2] (by omega)
  have hzo := Only.setRow U2 g #[.int .i64 C1.who, .int .i64 C1.rev, .int .i64 C1.seq, .string C1.text, .bool C1.fly, .slice s1.1 s1.2.1 s1.2.2, .bool C1.wait, .slice h1.1 h1.2.1 h1.2.2]
  have zS := own_only oS.out hzo (fun k hk h_ => by rcases h_ with rfl; exact own_blk_ne oS.out kr (by decide) hk)
  have zH := own_only oH.out hzo (fun k hk h_ => by rcases h_ with rfl; exact own_blk_ne oH.out kr (by decide) hk)
  refine row_end2 rfl rfl rfl rfl (client_row kz rfl) ?_
  exact ⟨s1, h1, rfl, own_base zS (by omega), own_base zH (by omega), hbase ▸ hz⟩
theorem hand_ok (s : ByteArray) (d f : List Pt) (A A' : Option Addr) (n n' cp cp' : Nat) (w : World) (hd : RdP w w.heap.size A n cp d) (hf : RdP w w.heap.size A' n' cp' f) (hss : s.size ≤ 140737488351232) (he : doE d s = 0) :
    Calls Try.prog 31 #[.string s, .slice A n cp, .slice A' n' cp'] w fun e w' => ∃ s1 h1 : Sl, e = .returned (.tuple #[clv (hC s d f) s1 h1, .bool true]) ∧ OwnSl w' w.heap.size s1 (hC s d f).sent ∧ OwnSl w' w.heap.size h1 (hC s d f).held ∧ Below w.heap.size w w' := by
  unfold hC
  by_cases h : doE f (edL (c0 s) d).text = 0
  · rw [if_pos h]
    exact hand_two s d f A A' n n' cp cp' w hd hf hss he h
  · rw [if_neg h]
    exact hand_one s d f A A' n n' cp cp' w hd hf hss he h
end Go.Proofs.Ytfncpcmaplhojaa
