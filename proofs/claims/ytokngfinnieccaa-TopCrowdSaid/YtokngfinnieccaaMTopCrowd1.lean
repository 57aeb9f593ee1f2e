/- Contract of scrivtop.begun: the program does something. Contract of scrivtop.at: a number of a row, 0 where there is none; and of a world's first edit there. Contracts of hash.Of, hash.power, hash.Join, and what they make. scrivtop.put, the first edit of any seat, and the sizes of a delta's text. walk of scrivtop.TopCrowd. -/
import Derived.Test.YtokngfinnieccaaU18
import Derived.Test.YtokngfinnieccaaU7
import Derived.Test.YtokngfinnieccaaU30
import Derived.Test.YtokngfinnieccaaU1
import Derived.Test.YtokngfinnieccaaU13
namespace Go.Proofs.Ytokngfinnieccaa
open Go.ChangeShapes Go.WideShapes Go.RowKit
set_option linter.unusedVariables false
set_option linter.unusedSimpArgs false
set_option maxRecDepth 100000
set_option maxHeartbeats 4000000
theorem topput_any (s : ByteArray) (hs : s.size ≤ 140737488351232) (w : World) :
 Calls Try.prog 24 #[.string s] w fun e w' => ∃ A, e = .returned (.slice A 1 1) ∧ RdP w' w'.heap.size A 1 1 [(2, 0, s)] ∧ Below w.heap.size w w' := by
 have hr := RdP.built w #[.int .i64 2, .int .i64 0, .string s] [(2, 0, s)] 1 rfl rfl (by decide) (by simpa using hs)
 have Hr := Lib.hid hr
 clear hr
 go_enter Try.func24, Try.ntmps24
 go_wp2_with fail
 go_ret
 exact ⟨_, rfl, by simpa using Hr.out, (Below.refl _ _).alloc (Nat.le_refl _) _⟩
theorem begun_text : txt (addS shN (1, 1, [(2, 0, ⟨#[97]⟩)])).log.text (addS shN (1, 1, [(2, 0, ⟨#[97]⟩)])).log.revs 1 = ⟨#[97]⟩ := by rfl
theorem begun_any (w : World) : Calls Try.prog 15 #[] w fun e w' => e = .returned (.bool true) ∧ Below w.heap.size w w' := by
 obtain ⟨B, hB⟩ : ∃ B, w.heap.size = B := ⟨_, rfl⟩
 have HBw := Lib.hid hB
 clear hB
 go_enter Try.func15, Try.ntmps15
 go_wp2_with fail
 refine (snew_B w).mono ?_
 rintro e w1 ⟨q, rfl, hm, hb1⟩
 rw [HBw.out] at hm hb1
 have hs1 : B ≤ w1.heap.size := by have := hb1.size; have := HBw.out; omega
 have HM := Lib.hid hm
 have HW := Lib.hid hb1
 have HS := Lib.hid hs1
 clear hm hb1 hs1
 go_wp2_with fail
 refine (topput_any ⟨#[97]⟩ (by decide) w1).mono ?_
 rintro e w2 ⟨A, rfl, hr, hb2⟩
 have HW2 := Lib.hid (HW.out.trans (hb2.mono HS.out))
 have HS2 : Hid (B ≤ w2.heap.size) := Lib.hid (Nat.le_trans HS.out hb2.size)
 have hc := sadd_B q shN none B 1 1 1 [(2, 0, ⟨#[97]⟩)] A 1 1 w2 (HM.out.below hb2) HS2.out hr
 rw [show nextE shN.log shN.text.size (1, 1, [(2, 0, ⟨#[97]⟩)]) = 0 from fill_a, if_pos rfl, show shN.log.base + ((shN.log.revs.length + 1 : Nat) : Int) = 1 from rfl] at hc
 rw [show addG shN none (1, 1, [(2, 0, ⟨#[97]⟩)]) = addS shN (1, 1, [(2, 0, ⟨#[97]⟩)]) by rw [addG_none, if_pos fill_a]] at hc
 have Hc := Lib.hid hc
 clear hc hr hb2 HM HW HS
 go_wp2_with fail
 refine Hc.out.mono ?_
 rintro e w3 ⟨rfl, hm, hb3⟩
 have HW3 := Lib.hid (HW2.out.trans hb3)
 have HS3 : Hid (B ≤ w3.heap.size) := Lib.hid (Nat.le_trans HS2.out hb3.size)
 have hc := stext_B q _ none B 1 1 1 w3 hm rfl (by decide)
 rw [begun_text] at hc
 have Hc2 := Lib.hid hc
 clear hc hm hb3 Hc HW2 HS2
 go_wp2_with fail
 refine Hc2.out.mono ?_
 rintro e w4 ⟨rfl, hb4⟩
 have hw := HW3.out.trans (hb4.mono HS3.out)
 clear hb4 Hc2 HW3
 go_wp2_with fail
 go_ret
 exact ⟨rfl, HBw.out ▸ hw⟩
def atL (l : List Int) (i : Nat) : Int := l.getD i 0
theorem at_any (l : List Int) (A : Option Addr) (n c B i : Nat) (w : World) (h : RdI w B A n c l) (hB : B ≤ w.heap.size) (hi : i ≤ 100) :
 Calls Try.prog 25 #[.slice A n c, .int .i64 i] w fun e w' => e = .returned (.int .i64 (atL l i)) ∧ w = w' := by
 have hn0 : (0 : Int) ≤ (n : Int) := by omega
 have hi0 : (0 : Int) ≤ (i : Int) := by omega
 have HL := Lib.hid h.1
 by_cases hlt : i < n
 · obtain ⟨b, o, rfl, hb, d0⟩ := h.at_ i hlt
   have hlt' : (i : Int) < (n : Int) := by omega
   have hbw : b < w.heap.size := Nat.lt_of_lt_of_le hb hB
   obtain ⟨x, hx⟩ : ∃ x, l[i]'(by have := h.1; omega) = x := ⟨_, rfl⟩
   rw [hx] at d0
   have ha : atL l i = x := by
    rw [atL, List.getD_eq_getElem?_getD, List.getElem?_eq_getElem (by have := h.1; omega), hx]
    rfl
   rw [ha]
   clear ha hx h
   go_enter Try.func25, Try.ntmps25
   go_wp2_with fail
   go_ret
   exact ⟨rfl, rfl⟩
 · have hge : (n : Int) ≤ (i : Int) := by omega
   have ha : atL l i = 0 := by
    rw [atL, List.getD_eq_getElem?_getD, List.getElem?_eq_none (by have := HL.out; omega)]
    rfl
   rw [ha]
   clear ha h
   go_enter Try.func25, Try.ntmps25
   go_wp2_with fail
   go_ret
   exact ⟨rfl, rfl⟩
def hstep (h : Nat) (c : UInt8) : Nat := (h * 257 + c.toNat + 1) % 2147483647
def hashL (l : List UInt8) : Nat := l.foldl hstep 0
def hpoly (l : List UInt8) : Nat := l.foldl (fun h c => h * 257 + c.toNat + 1) 0
theorem hstep_lt (h : Nat) (c : UInt8) : hstep h c < 2147483647 := Nat.mod_lt _ (by decide)
theorem fold_lt (l : List UInt8) : ∀ h, h < 2147483647 → l.foldl hstep h < 2147483647 := by
 induction l with
 | nil => intro h hh; exact hh
 | cons c r ih => intro h _; exact ih _ (hstep_lt h c)
theorem hashL_lt (l : List UInt8) : hashL l < 2147483647 := fold_lt l 0 (by decide)
theorem hpoly_fold (l : List UInt8) : ∀ h, l.foldl (fun h c => h * 257 + c.toNat + 1) h = h * 257 ^ l.length + hpoly l := by
 induction l with
 | nil => intro h; simp [hpoly]
 | cons c r ih =>
   intro h
   unfold hpoly
   simp only [List.foldl_cons, List.length_cons]
   rw [ih, ih (0 * 257 + c.toNat + 1), Nat.pow_succ]
   have : (h * 257 + c.toNat + 1) * 257 ^ r.length = h * (257 ^ r.length * 257) + (c.toNat + 1) * 257 ^ r.length := by
    rw [Nat.add_assoc, Nat.add_mul, Nat.mul_assoc, Nat.mul_comm 257]
   rw [this, show 0 * 257 + c.toNat + 1 = c.toNat + 1 by omega]
   omega
theorem fold_mod (l : List UInt8) : ∀ h, l.foldl hstep h % 2147483647 = (l.foldl (fun h c => h * 257 + c.toNat + 1) h) % 2147483647 := by
 suffices H : ∀ h k, h % 2147483647 = k % 2147483647 → l.foldl hstep h % 2147483647 = (l.foldl (fun h c => h * 257 + c.toNat + 1) k) % 2147483647 from fun h => H h h rfl
 induction l with
 | nil => intro h k e; exact e
 | cons c r ih =>
   intro h k e
   simp only [List.foldl_cons]
   refine ih _ _ ?_
   unfold hstep
   omega
theorem hashL_eq (l : List UInt8) : hashL l = hpoly l % 2147483647 := by
 have h := fold_mod l 0
 have h2 := hashL_lt l
 unfold hashL at h2 ⊢
 rw [Nat.mod_eq_of_lt h2] at h
 exact h
theorem hashL_append (s t : List UInt8) : hashL (s ++ t) = (hashL s * (257 ^ t.length % 2147483647) + hashL t) % 2147483647 := by
 rw [hashL_eq (s ++ t), show hpoly (s ++ t) = t.foldl (fun h c => h * 257 + c.toNat + 1) (hpoly s) by simp [hpoly], hpoly_fold, hashL_eq s, hashL_eq t]
 conv => rhs; rw [Nat.add_mod, Nat.mul_mod]
 conv => lhs; rw [Nat.add_mod, Nat.mul_mod]
 simp only [Nat.mod_mod]
theorem hof_any (s : ByteArray) (w : World) (hs : s.size ≤ 9223372036854775807) :
 Calls Try.prog 32 #[.string s] w fun e w' => e = .returned (.int .i64 (hashL s.data.toList)) ∧ w = w' := by
 go_enter Try.func32, Try.ntmps32
 go_wp2_with fail
 go_loop [3, 4, 7] (fun h i0 i => ∃ k m : Nat, k ≤ s.size ∧ i = .int .i64 k ∧ h = .int .i64 m ∧ m < 2147483647 ∧ Hid ((s.data.toList.drop k).foldl hstep m = hashL s.data.toList)) (fun _ _ i => s.size - (intOf i).toNat)
 case atStart => exact ⟨0, 0, by omega, rfl, rfl, by omega, Lib.hid rfl⟩
 case round =>
  obtain ⟨k, m, hk, rfl, rfl, hm, hg⟩ := hrel
  by_cases hlt : k < s.size
  · have hc8 : (s[k].toNat : Int) < 256 := by have := s[k].toNat_lt; omega
    go_wp2_with fail
    go_round
    case rel => exact ⟨k + 1, hstep m s[k], by omega, by go_num, by unfold hstep; go_num, hstep_lt _ _, by
     rw [← hg.out]
     conv => rhs; rw [List.drop_eq_getElem_cons (show k < s.data.toList.length by rw [bs_len]; omega), List.foldl_cons]
     exact Lib.hid rfl⟩
    case measure => simp [intOf]; omega
  · have hG : Hid (m = hashL s.data.toList) := by
     rw [← hg.out, List.drop_eq_nil_of_le (by rw [bs_len]; omega)]; exact Lib.hid rfl
    go_wp2_with fail
    go_ret
    exact ⟨by rw [← hG.out]; rfl, rfl⟩
theorem wrap_mul (x y : Nat) (hx : (x : Int) ≤ 2147483646) (hy : (y : Int) ≤ 2147483646) : wrap64 ((x : Int) * y) = ((x * y : Nat) : Int) := by
 have h := Nat.mul_le_mul (show x ≤ 2147483647 by omega) (show y ≤ 2147483647 by omega)
 rw [← Int.natCast_mul]
 exact IntWalk.wrap64_in _ ⟨by omega, by omega⟩
@[irreducible] def powN (n : Nat) : Nat := 257 ^ n % 2147483647
@[irreducible] def PInv (n m x y : Nat) : Prop := x * y ^ m % 2147483647 = powN n
theorem and_one64 (m : Nat) (h : m < 9223372036854775808) : bits BinOp.and IntKind.i64 (m : Int) 1 = ((m % 2 : Nat) : Int) := by
 have h1 : BitVec.ofInt 64 (m : Int) = BitVec.ofNat 64 m := by simp
 have h2 : BitVec.ofInt 64 (1 : Int) = BitVec.ofNat 64 1 := by rfl
 show IntKind.i64.wrap _ = _
 rw [show IntKind.i64.bits = 64 from rfl, h1, h2]
 rw [BitVec.toNat_and, BitVec.toNat_ofNat, BitVec.toNat_ofNat, Nat.mod_eq_of_lt (by omega), Nat.mod_eq_of_lt (by omega), Nat.and_one_is_mod]
 exact IntWalk.i64_in _ ⟨by omega, by omega⟩
theorem powN_lt (n : Nat) : powN n < 2147483647 := by unfold powN; exact Nat.mod_lt _ (by decide)
theorem mod_pow_congr (x y : Nat) (k : Nat) : x * (y % 2147483647) ^ k % 2147483647 = x * y ^ k % 2147483647 := by
 rw [Nat.mul_mod, ← Nat.pow_mod, ← Nat.mul_mod]
theorem pinv_odd (n m x y : Nat) (ho : m % 2 = 1) (h : PInv n m x y) : PInv n (m / 2) (x * y % 2147483647) (y * y % 2147483647) := by
 unfold PInv at h ⊢
 rw [mod_pow_congr, ← h]
 conv => lhs; rw [Nat.mul_mod, Nat.mod_mod, ← Nat.mul_mod]
 congr 1
 conv => rhs; rw [show m = 2 * (m / 2) + 1 by omega, Nat.pow_succ, Nat.pow_mul]
 rw [Nat.pow_two, Nat.mul_assoc, Nat.mul_comm y]
theorem pinv_even (n m x y : Nat) (ho : m % 2 = 0) (h : PInv n m x y) : PInv n (m / 2) x (y * y % 2147483647) := by
 unfold PInv at h ⊢
 rw [mod_pow_congr, ← h]
 congr 1
 conv => rhs; rw [show m = 2 * (m / 2) by omega, Nat.pow_mul]
 rw [Nat.pow_two]
theorem power_any (n : Nat) (w : World) (hn : (n : Int) ≤ 2147483647) :
 Calls Try.prog 75 #[.int .i64 n] w fun e w' => e = .returned (.int .i64 (powN n)) ∧ w = w' := by
 go_enter Try.func75, Try.ntmps75
 go_wp2_with fail
 go_loop [0, 3, 4] (fun n' o b => ∃ m x y : Nat, n' = .int .i64 m ∧ (m : Int) ≤ 2147483647 ∧ o = .int .i64 x ∧ b = .int .i64 y ∧ (x : Int) ≤ 2147483646 ∧ (y : Int) ≤ 2147483646 ∧ PInv n m x y) (fun n' _ _ => (intOf n').toNat)
 case atStart => exact ⟨n, 1, 257, rfl, hn, rfl, rfl, by decide, by decide, by unfold PInv powN; rw [Nat.one_mul]⟩
 case round =>
  obtain ⟨m, x, y, rfl, hm, rfl, rfl, hx, hy, hg⟩ := hrel
  by_cases hlt : (0 : Int) < m
  · obtain ⟨P, hP⟩ : ∃ P, P = x * y := ⟨_, rfl⟩
    obtain ⟨R, hR⟩ : ∃ R, R = y * y := ⟨_, rfl⟩
    have hw1 : wrap64 ((x : Int) * y) = (P : Int) := by rw [hP]; exact wrap_mul x y hx hy
    have hw2 : wrap64 ((y : Int) * y) = (R : Int) := by rw [hR]; exact wrap_mul y y hy hy
    have HP := Lib.hid hP
    have HR := Lib.hid hR
    clear hP hR
    have hE : (bits BinOp.and IntKind.i64 (m : Int) 1 == 1) = (m % 2 == 1) := by
     rw [and_one64 m (by omega)]
     rw [Bool.eq_iff_iff]; simp; omega
    have hP1 : (P : Int) % 2147483647 ≤ 2147483646 := by omega
    have hR1 : (R : Int) % 2147483647 ≤ 2147483646 := by omega
    by_cases hodd : m % 2 = 1
    · have hE1 : (bits BinOp.and IntKind.i64 (m : Int) 1 == 1) = true := by rw [hE]; simpa using hodd
      clear hE
      have Hodd := Lib.hid hodd
      clear hodd
      go_wp2_with fail
      go_round
      case rel =>
       refine ⟨m / 2, P % 2147483647, R % 2147483647, by go_num, by omega, by go_num, by go_num, by omega, by omega, ?_⟩
       rw [HP.out, HR.out]
       exact pinv_odd n m x y Hodd.out hg
      case measure => simp [intOf]; omega
    · have hE1 : (bits BinOp.and IntKind.i64 (m : Int) 1 == 1) = false := by rw [hE]; simpa using hodd
      clear hE
      have Hodd := Lib.hid hodd
      clear hodd
      go_wp2_with fail
      go_round
      case rel =>
       refine ⟨m / 2, x, R % 2147483647, by go_num, by omega, rfl, by go_num, by omega, by omega, ?_⟩
       rw [HR.out]
       exact pinv_even n m x y (by have := Hodd.out; omega) hg
      case measure => simp [intOf]; omega
  · obtain rfl : m = 0 := by omega
    have h := hg
    unfold PInv at h
    rw [Nat.pow_zero, Nat.mul_one, Nat.mod_eq_of_lt (by omega)] at h
    have H := Lib.hid h
    clear h hg hx hy hn hm
    go_wp2_with fail
    go_ret
    exact ⟨by rw [← H.out]; rfl, rfl⟩
theorem join_int (a b n : Int) (w : World) (hn0 : 0 ≤ n) (hn : n ≤ 2147483647) (ha0 : 0 ≤ a) (ha : a ≤ 2147483646) (hb0 : 0 ≤ b) (hb : b ≤ 2147483646) (P R : Int) (hw1 : wrap64 (a * powN n.toNat) = P) (hw2 : wrap64 (P + b) = R) (hR : 0 ≤ R) :
 Calls Try.prog 31 #[.int .i64 a, .int .i64 b, .int .i64 n] w fun e w' => e = .returned (.tuple #[.int .i64 (R % 2147483647), .int .i64 0]) ∧ w = w' := by
 have hpw : ∀ w, Calls Try.prog 75 #[.int .i64 n] w fun e w' => e = .returned (.int .i64 (powN n.toNat)) ∧ w = w' := fun w => by
  have := power_any n.toNat w (by omega)
  rw [show ((n.toNat : Nat) : Int) = n by omega] at this
  exact this
 have Hpw := Lib.hid hpw
 clear hpw
 go_enter Try.func31, Try.ntmps31
 go_wp2_with fail
 refine (Hpw.out _).mono ?_
 rintro e w' ⟨rfl, rfl⟩
 go_wp2_with fail
 go_ret2
 exact ⟨rfl, rfl⟩
theorem join_good (a b n : Nat) (w : World) (hn : (n : Int) ≤ 2147483647) (ha : (a : Int) ≤ 2147483646) (hb : (b : Int) ≤ 2147483646) :
 Calls Try.prog 31 #[.int .i64 a, .int .i64 b, .int .i64 n] w fun e w' => e = .returned (.tuple #[.int .i64 (((a * powN n + b) % 2147483647 : Nat) : Int), .int .i64 0]) ∧ w = w' := by
 have hp : (powN n : Int) ≤ 2147483646 := by have := powN_lt n; omega
 have h := Nat.mul_le_mul (show a ≤ 2147483647 by omega) (show powN n ≤ 2147483647 by omega)
 have := join_int a b n w (by omega) hn (by omega) ha (by omega) hb ((a * powN n : Nat) : Int) ((a * powN n + b : Nat) : Int) (by rw [Int.toNat_natCast]; exact wrap_mul _ _ ha hp)
  (by rw [← Int.natCast_add]; exact IntWalk.wrap64_in _ ⟨by omega, by omega⟩) (by omega)
 rw [show (((a * powN n + b : Nat) : Int) % 2147483647) = (((a * powN n + b) % 2147483647 : Nat) : Int) by omega] at this
 exact this
theorem tput_any (s : ByteArray) (hs : s.size ≤ 140737488351232) (w : World) :
 Calls Try.prog 24 #[.string s] w fun e w' => ∃ A, e = .returned (.slice A 1 1) ∧ RdP w' w'.heap.size A 1 1 [(2, 0, s)] ∧ (∀ ad, A = some ad → w.heap.size ≤ ad.block) ∧ Below w.heap.size w w' := by
 have hr := RdP.built w #[.int .i64 2, .int .i64 0, .string s] [(2, 0, s)] 1 rfl rfl (by decide) (by simpa using hs)
 have Hr := Lib.hid hr
 clear hr
 go_enter Try.func24, Try.ntmps24
 go_wp2_with fail
 go_ret
 exact ⟨_, rfl, by simpa using Hr.out, fun ad e => by injection e with e; subst e; exact Nat.le_refl _, (Below.refl _ _).alloc (Nat.le_refl _) _⟩
theorem wfirst_at {w : World} {B q Z : Nat} (n i : Nat) (h1 : i < n) (h : WdI w (fun k => B ≤ k ∧ k < Z) q shN (seatsN n) 0 0 (fun _ => 0)) (hB : B ≤ w.heap.size) (t : ByteArray) (ht : t.size ≤ 64) (A : Option Addr) (m c : Nat) (hd : RdP w w.heap.size A m c [(2, 0, t)]) (hA : ∀ ad, A = some ad → Z ≤ ad.block) (hE : doE [(2, 0, t)] emp = 0) (hn : nP (units [(2, 0, t)]) ≤ 500) :
 Calls Try.prog 23 #[.pointer (some ⟨q, 0, none⟩), .int .i64 i, .slice A m c] w fun en w' =>
  en = .returned (.int .i64 0) ∧ WdB w' B q shN ((seatsN n).set i (editS (seat0 i) [(2, 0, t)])) (nP (units [(2, 0, t)]) : Int) 1 (fun k => if k = i then 1 else 0) ∧ Below B w w' := by
 have hX : (seatsN n).length = n := by rw [seatsN, List.length_map, List.length_range]
 have h0 : (seatsN n)[i]? = some (seat0 i) := by rw [seatsN, List.getElem?_map, List.getElem?_range h1]; rfl
 refine (wedit_I h (i := i) (by omega) (Int.le_refl 0) (Int.le_refl 0) [(2, 0, t)] A m c ⟨hd, fun ad e _ hp => by have := hA ad e; omega⟩).mono ?_
 rintro en w' (⟨EE, g1, g2, g3, g4, g5⟩ | ⟨x, g1, g2, g3, g4, g5⟩)
 · refine absurd ⟨hE, by decide, ?_⟩ (g5 _ h0)
   omega
 · rw [h0] at g2
   have g2 := Option.some.inj g2
   subst g2
   refine ⟨g1, ?_, g5.below hB fun k hk => hk.1⟩
   have := g4.mono (P' := fun k => B ≤ k) (fun k _ hk => by
    rcases hk with hk | hk
    · exact hk.1
    · omega)
   simp only [Int.zero_add] at this
   exact this
theorem wrL_most {l : List Pt} (h : chk l = 0) : (wrL l).length ≤ 100000000 := by
 have hp := chk_parts h
 have h1 := wr_len l hp.2.2.2.2.2
 have h2 := hp.1
 unfold wrL
 rw [List.length_append]
 have h3 := vi_len 5 l.length (by omega) (by omega)
 omega
theorem wr_some (l : List Pt) : ∃ S : ByteArray, S.data.toList = wrL l := ⟨⟨(wrL l).toArray⟩, rfl⟩
theorem hash_one (l : List UInt8) (c : UInt8) : (hashL l * powN 1 + hashL [c]) % 2147483647 = hashL (l ++ [c]) := by
 rw [hashL_append]
 unfold powN
 rfl
theorem ab_do : doE [(2, 0, ⟨#[97, 98]⟩)] emp = 0 := by decide +kernel
theorem ab_nP : nP (units [(2, 0, ⟨#[97, 98]⟩)]) = 2 := by decide +kernel
theorem ext_byte (t : ByteArray) (i : Nat) (h : i < t.size) : (t.extract i (i + 1)).data.toList = [t.data.toList[i]'h] := by
 have e : (t.extract i (i + 1)).data.toList = (t.data.toList.drop i).take 1 := by
  rw [bs_extract, List.drop_take]
  simp
 rw [e, List.drop_eq_getElem_cons (show i < t.data.toList.length from h)]
 rfl
theorem walk_TopCrowd (n : Int) (wn : (Lit.int .i64 n).wf = true) (v1 : Value) (l : List (List Int)) (v2 : Value) (ds : List (List Pt)) (w : World) (hl : IsRows w v1 l) (hd : IsDeltas w v2 ds) :
 Calls Try.prog 4 #[.int .i64 n, v1, v2] w fun e w' => e = .returned (.bool true) ∧ Below w.heap.size w w' := by
 obtain ⟨Al, nl, cl, sl, rfl, hrs, hrl⟩ := hl
 obtain ⟨Ad, nd, cd, sd, rfl, hds, hdd⟩ := hd
 obtain ⟨B, hB⟩ : ∃ B, w.heap.size = B := ⟨_, rfl⟩
 rw [hB] at hrs hrl hds hdd
 have HRS := Lib.hid hrs
 have HRL := Lib.hid hrl
 have HDS := Lib.hid hds
 have HDD := Lib.hid hdd
 have HBw := Lib.hid hB
 have HB : Hid (B ≤ w.heap.size) := Lib.hid (by omega)
 have HW : Hid (Below B w w) := Lib.hid (Below.refl _ _)
 have hnl0 : (0 : Int) ≤ (nl : Int) := by omega
 have hnd0 : (0 : Int) ≤ (nd : Int) := by omega
 have hnlc : nl ≤ cl ∧ cl ≤ maxLen := ⟨hrs.2.1, hrs.2.2.1⟩
 have hndc : nd ≤ cd ∧ cd ≤ maxLen := ⟨hds.2.1, hds.2.2.1⟩
 have hcl1 : (nl : Int) ≤ (cl : Int) := by omega
 have hcl2 : (cl : Int) ≤ 9223372036854775807 := by have := hnlc.2; simp only [maxLen] at this; omega
 have hcd1 : (nd : Int) ≤ (cd : Int) := by omega
 have hcd2 : (cd : Int) ≤ 9223372036854775807 := by have := hndc.2; simp only [maxLen] at this; omega
 clear hrs hrl hds hdd hB hnlc hndc
 go_enter Try.func4, Try.ntmps4
 obtain ⟨m, hm⟩ : ∃ m, wi n 4 = m := ⟨_, rfl⟩
 have hm4 : m < 4 := by rw [← hm]; exact wi_lt n 4 (by decide)
 have hc_ := within_any n 4 w (by decide) (by decide)
 rw [hm] at hc_
 have Hc_ := Lib.hid hc_
 clear hc_ hm
 go_wp2_with fail
 refine Hc_.out.mono ?_
 rintro en w9 ⟨rfl, rfl⟩
 clear Hc_
 obtain ⟨N, hN⟩ : ∃ N, 1 + m = N := ⟨_, rfl⟩
 have hNc : IntKind.i64.wrap (1 + (m : Int)) = (N : Int) := by rw [← hN]; exact IntWalk.i64_in _ (by omega) |>.trans (by omega)
 have hN1 : 1 ≤ N := by omega
 have hN4 : N ≤ 4 := by omega
 clear hN hm4
 have hc_ := wnew_B (B := B) N hN1 hN4 w HB.out
 have Hc_ := Lib.hid hc_
 clear hc_
 go_wp2_with fail
 refine Hc_.out.mono ?_
 rintro en w1 ⟨q, rfl, hwd, hb1⟩
 clear Hc_
 have HN := Lib.hid hwd
 have HZ : Hid (w1.heap.size ≤ w1.heap.size) := Lib.hid (Nat.le_refl _)
 obtain ⟨Z, hZ⟩ : ∃ Z, w1.heap.size = Z := ⟨_, rfl⟩
 rw [hZ] at HN
 have HZ : Hid (Z ≤ w1.heap.size) := Lib.hid (Nat.le_of_eq hZ.symm)
 clear hwd hZ
 replace HW := Lib.hid (HW.out.trans (hb1.mono HB.out))
 replace HB : Hid (B ≤ w1.heap.size) := Lib.hid (Nat.le_trans HB.out hb1.size)
 clear hb1
 have hc_ := begun_any w1
 have Hc_ := Lib.hid hc_
 clear hc_
 go_wp2_with fail
 refine Hc_.out.mono ?_
 rintro en w2 ⟨rfl, hb2⟩
 clear Hc_
 replace HN := Lib.hid (HN.out.below hb2)
 replace HZ := Lib.hid (Nat.le_trans HZ.out (hb2.size))
 replace HW := Lib.hid (HW.out.trans (hb2.mono HB.out))
 replace HB : Hid (B ≤ w2.heap.size) := Lib.hid (Nat.le_trans HB.out hb2.size)
 clear hb2
 obtain ⟨i0, hi0⟩ : ∃ i0, N = i0 + 1 := ⟨N - 1, by omega⟩
 have hi0N : i0 < N := by omega
 have hwi : IntKind.i64.wrap ((N : Int) - 1) = (i0 : Int) := (IntWalk.i64_in _ (by omega)).trans (by omega)
 clear hi0
 have hc_ := tput_any ⟨#[97, 98]⟩ (by decide) w2
 have Hc_ := Lib.hid hc_
 clear hc_
 go_wp2_with fail
 refine Hc_.out.mono ?_
 rintro en w3 ⟨Aa, rfl, hra, hza, hb3⟩
 clear Hc_
 have HRA := Lib.hid hra
 have HZA : Hid (∀ ad, Aa = some ad → Z ≤ ad.block) := Lib.hid (fun ad e => Nat.le_trans HZ.out (hza ad e))
 clear hra hza
 replace HN := Lib.hid (HN.out.below hb3)
 replace HZ := Lib.hid (Nat.le_trans HZ.out (hb3.size))
 replace HW := Lib.hid (HW.out.trans (hb3.mono HB.out))
 replace HB : Hid (B ≤ w3.heap.size) := Lib.hid (Nat.le_trans HB.out hb3.size)
 clear hb3
 have hc_ := wfirst_at N i0 hi0N HN.out HB.out ⟨#[97, 98]⟩ (by decide) Aa 1 1 HRA.out HZA.out ab_do (by rw [ab_nP]; decide)
 have Hc_ := Lib.hid hc_
 clear hc_
 go_wp2_with fail
 refine Hc_.out.mono ?_
 rintro en w4 ⟨rfl, hwd, hb2⟩
 clear Hc_
 have HWD := Lib.hid hwd
 clear hwd
 replace HW := Lib.hid (HW.out.trans hb2)
 replace HB : Hid (B ≤ w4.heap.size) := Lib.hid (Nat.le_trans HB.out hb2.size)
 clear hb2
 clear HN HRA HZA HZ
 have HX : Hid (((seatsN N).set i0 (editS (seat0 i0) [(2, 0, ⟨#[97, 98]⟩)])).length = N) := Lib.hid (by rw [List.length_set, seatsN, List.length_map, List.length_range])
 clear hi0N hwi
 go_upto_region 6 with (fail)
 go_loopw [9, 10, 11, 55] (fun x9 x10 x11 iv wr => ∃ (k : Nat) (s : Sh) (X : List St) (put edits : Int) (e : Nat → Nat), k ≤ nl ∧ iv = .int .i64 k ∧ Hid (WdB wr B q s X put edits e) ∧ Hid (X.length = N) ∧ Hid (Below B w wr) ∧ Hid (B ≤ wr.heap.size)) (fun _ _ _ iv _ => nl - (intOf iv).toNat)
 case atStart => exact ⟨0, _, _, _, _, _, by omega, rfl, HWD, HX, HW, HB⟩
 case round =>
  clear HWD HX HW HB
  obtain ⟨k, s, X, put, edits, e, hk, rfl, HWD, HX, HW, HB⟩ := hrel
  by_cases hlt : k < nl
  · skip
    have hk0 : (0 : Int) ≤ (k : Int) := by omega
    have hkn : (k : Int) < (nl : Int) := by omega
    have hsll : sl.length = nl := HRS.out.1.symm
    have hll : l.length = nl := by rw [← hsll]; exact HRL.out.1.symm
    obtain ⟨sk, hsk⟩ : ∃ sk, sl[k]? = some sk := ⟨_, List.getElem?_eq_getElem (by omega)⟩
    obtain ⟨cs, hcs⟩ : ∃ cs, l[k]? = some cs := ⟨_, List.getElem?_eq_getElem (by omega)⟩
    obtain ⟨bk, ok, hAl, hbk, dk⟩ := (HRS.out.below HW.out).at_ hsk
    subst hAl
    have hbk' : bk < wr.heap.size := Nat.lt_of_lt_of_le hbk HB.out
    have hrow := HRL.out.2 k sk cs hsk hcs
    obtain ⟨Ac, nc, cc⟩ := sk
    simp only at hrow dk
    have HRW := Lib.hid hrow
    have hnc0 : (0 : Int) ≤ (nc : Int) := by omega
    have HNC : Hid (nc = cs.length) := Lib.hid hrow.1
    clear hsll hll hsk hcs hrow
    have Hat := Lib.hid (at_any cs Ac nc cc B 1 wr (HRW.out.below HW.out) HB.out (by decide))
    go_wp2_with fail
    refine Hat.out.mono ?_
    rintro en w9 ⟨rfl, rfl⟩
    clear Hat
    obtain ⟨a1, ha1⟩ : ∃ a1, atL cs 1 = a1 := ⟨_, rfl⟩
    obtain ⟨I, hIe⟩ : ∃ x, wi a1 N = x := ⟨_, rfl⟩
    have hIl : I < N := by rw [← hIe]; exact wi_lt a1 N (by omega)
    have hc_ := within_any a1 N wr (by omega) (by omega)
    rw [hIe] at hc_
    have Hc_ := Lib.hid hc_
    have HI := Lib.hid hIe
    clear hc_ hIe
    go_wp2_with fail
    refine Hc_.out.mono ?_
    rintro en w9 ⟨rfl, rfl⟩
    clear Hc_
    have Hat := Lib.hid (at_any cs Ac nc cc B 0 wr (HRW.out.below HW.out) HB.out (by decide))
    go_wp2_with fail
    refine Hat.out.mono ?_
    rintro en w9 ⟨rfl, rfl⟩
    clear Hat
    obtain ⟨a0, ha0⟩ : ∃ a0, atL cs 0 = a0 := ⟨_, rfl⟩
    obtain ⟨K, hKe⟩ : ∃ x, wi a0 3 = x := ⟨_, rfl⟩
    have hKl : K < 3 := by rw [← hKe]; exact wi_lt a0 3 (by decide)
    have hc_ := within_any a0 3 wr (by decide) (by decide)
    rw [hKe] at hc_
    have Hc_ := Lib.hid hc_
    have HK := Lib.hid hKe
    clear hc_ hKe
    go_wp2_with fail
    refine Hc_.out.mono ?_
    rintro en w9 ⟨rfl, rfl⟩
    clear Hc_
    have hIX : I < X.length := by rw [HX.out]; exact hIl
    have hk3 : K = 0 ∨ K = 1 ∨ K = 2 := by omega
    clear hKl
    rcases hk3 with hk0 | hk0 | hk0
    · skip
      subst hk0
      by_cases hkd : k < nd
      · skip
        have hkd' : (k : Int) < (nd : Int) := by omega
        have hsdl : sd.length = nd := HDS.out.1.symm
        have hdl : ds.length = nd := by rw [← hsdl]; exact HDD.out.1.symm
        obtain ⟨tk, htk⟩ : ∃ tk, sd[k]? = some tk := ⟨_, List.getElem?_eq_getElem (by omega)⟩
        obtain ⟨d, hdk⟩ : ∃ d, ds[k]? = some d := ⟨_, List.getElem?_eq_getElem (by omega)⟩
        obtain ⟨be, oe, hAd, hbe, de⟩ := (HDS.out.below HW.out).at_ htk
        subst hAd
        have hbe' : be < wr.heap.size := Nat.lt_of_lt_of_le hbe HB.out
        have hdel := HDD.out.2 k tk d htk hdk
        obtain ⟨Ae, ne, ce⟩ := tk
        simp only at hdel de
        have HDL := Lib.hid hdel
        have hne0 : (0 : Int) ≤ (ne : Int) := by omega
        have hnec : ne ≤ ce ∧ ce ≤ maxLen := ⟨hdel.2.1.1, hdel.2.1.2.1⟩
        have hce1 : (ne : Int) ≤ (ce : Int) := by omega
        have hce2 : (ce : Int) ≤ 9223372036854775807 := by have := hnec.2; simp only [maxLen] at this; omega
        have HTK := Lib.hid htk
        clear hsdl hdl hdk hdel hnec
        have hc_ := wedit_B HWD.out HB.out (i := I) hIX d Ae ne ce (HDL.out.below HW.out)
        have Hc_ := Lib.hid hc_
        clear hc_
        go_wp2_with fail
        refine Hc_.out.mono ?_
        rintro en we (⟨EE, rfl, hEE, hwd, hb2⟩ | ⟨x, rfl, hx, hdo, hwd, hb2⟩)
        · skip
          clear Hc_
          have HWD := Lib.hid hwd
          clear hwd
          replace HW := Lib.hid (HW.out.trans hb2)
          replace HB : Hid (B ≤ we.heap.size) := Lib.hid (Nat.le_trans HB.out hb2.size)
          clear hb2
          go_wp2_with fail
          go_roundw
          case rel => exact ⟨k + 1, s, X, put, edits, e, by omega, by go_num, HWD, HX, HW, HB⟩
          case measure => simp [intOf]; omega
        · skip
          clear Hc_
          have HX2 : Hid ((X.set I (editS x d)).length = N) := Lib.hid (by rw [List.length_set]; exact HX.out)
          have HWD := Lib.hid hwd
          clear hwd
          replace HW := Lib.hid (HW.out.trans hb2)
          replace HB : Hid (B ≤ we.heap.size) := Lib.hid (Nat.le_trans HB.out hb2.size)
          clear hb2
          go_wp2_with fail
          go_roundw
          case rel => exact ⟨k + 1, s, _, _, _, _, by omega, by go_num, HWD, HX2, HW, HB⟩
          case measure => simp [intOf]; omega
      · skip
        have hkd' : (nd : Int) ≤ (k : Int) := by omega
        go_wp2_with fail
        go_roundw
        case rel => exact ⟨k + 1, s, X, put, edits, e, by omega, by go_num, HWD, HX, HW, HB⟩
        case measure => simp [intOf]; omega
    · skip
      subst hk0
      have hc_ := wup_B HWD.out HB.out hIX
      have Hc_ := Lib.hid hc_
      clear hc_
      go_wp2_with fail
      refine Hc_.out.mono ?_
      rintro en w45 ⟨b, s2, X2, rfl, hup, hwd, hb2⟩
      have HX2 : Hid (X2.length = N) := Lib.hid (by rw [hup.len]; exact HX.out)
      clear hup
      clear Hc_
      have HWD := Lib.hid hwd
      clear hwd
      replace HW := Lib.hid (HW.out.trans hb2)
      replace HB : Hid (B ≤ w45.heap.size) := Lib.hid (Nat.le_trans HB.out hb2.size)
      clear hb2
      go_wp2_with fail
      go_roundw
      case rel => exact ⟨k + 1, s2, X2, put, edits, e, by omega, by go_num, HWD, HX2, HW, HB⟩
      case measure => simp [intOf]; omega
    · skip
      subst hk0
      have hc_ := wdown_B HWD.out HB.out hIX
      have Hc_ := Lib.hid hc_
      clear hc_
      go_wp2_with fail
      refine Hc_.out.mono ?_
      rintro en w45 ⟨b, X2, rfl, hdn, hwd, hb2⟩
      have HX2 : Hid (X2.length = N) := Lib.hid (by rw [hdn.len]; exact HX.out)
      clear hdn
      clear Hc_
      have HWD := Lib.hid hwd
      clear hwd
      replace HW := Lib.hid (HW.out.trans hb2)
      replace HB : Hid (B ≤ w45.heap.size) := Lib.hid (Nat.le_trans HB.out hb2.size)
      clear hb2
      go_wp2_with fail
      go_roundw
      case rel => exact ⟨k + 1, s, X2, put, edits, e, by omega, by go_num, HWD, HX2, HW, HB⟩
      case measure => simp [intOf]; omega
  · skip
    have hkn : k = nl := by omega
    subst hkn
    have hc_ := wsettle_B HWD.out HB.out (fun _ _ => True) ⟨fun _ _ _ _ _ _ _ _ _ => trivial, fun _ _ _ _ _ _ _ _ => trivial⟩ trivial
    have Hc_ := Lib.hid hc_
    clear hc_
    go_wp2_with fail
    refine Hc_.out.mono ?_
    rintro en w25 ⟨rfl, s9, X9, hwd, hcalm, hev9, hlen9, hb2⟩
    have HCA := Lib.hid hcalm
    have HEV := Lib.hid hev9
    have HX9 : Hid (X9.length = N) := Lib.hid (by rw [hlen9]; exact HX.out)
    clear hcalm hlen9 hev9
    clear Hc_
    clear HWD
    have HWD := Lib.hid hwd
    clear hwd
    replace HW := Lib.hid (HW.out.trans hb2)
    replace HB : Hid (B ≤ w25.heap.size) := Lib.hid (Nat.le_trans HB.out hb2.size)
    clear hb2
    obtain ⟨R0, hR0⟩ : ∃ R0, s9.log.revs = R0 := ⟨_, rfl⟩
    obtain ⟨NR, hNR⟩ : ∃ NR, R0.length = NR := ⟨_, rfl⟩
    have HR0 := Lib.hid hR0
    have HNR := Lib.hid hNR
    have hNR4 : NR ≤ 64 := by rw [← hNR, ← hR0]; exact HWD.out.2.len
    have hNR0 : (0 : Int) ≤ (NR : Int) := by omega
    clear hR0 hNR
    have hc_ := wrevs_B HWD.out
    have Hc_ := Lib.hid hc_
    clear hc_
    go_wp2_with fail
    refine Hc_.out.mono ?_
    rintro en w26 ⟨⟨Aw, nw, cw⟩, ssw, rfl, how, hb26⟩
    clear Hc_
    replace HWD := Lib.hid (HWD.out.below hb26)
    replace HW := Lib.hid (HW.out.trans (hb26.mono HB.out))
    replace HB : Hid (B ≤ w26.heap.size) := Lib.hid (Nat.le_trans HB.out hb26.size)
    clear hb26
    rw [HR0.out] at how
    simp only at how
    obtain rfl : NR = nw := by
     obtain ⟨A9, c9, e9⟩ := how.form
     injection e9 with e1 e2 e3
     rw [← HNR.out]; exact e2.symm
    have how := how.base (Nat.zero_le _)
    have hcw1 : (NR : Int) ≤ (cw : Int) := by have := how.rd.caps; omega
    have hcw2 : (cw : Int) ≤ 9223372036854775807 := by have := how.rd.caps; omega
    have HV := Lib.hid how
    clear how
    obtain ⟨TX, hTX⟩ : ∃ TX, txt emp R0 NR = TX := ⟨_, rfl⟩
    have HTX := Lib.hid hTX
    have hte : txE emp R0 = 0 := by
     have h1 := HWD.out.2.inv.log.txe
     rw [HWD.out.2.text, HR0.out] at h1
     exact h1
    have HTE := Lib.hid hte
    have hall : ∀ (i : Nat) (x : St), X9[i]? = some x → x.c.text = TX := fun i x hx => by
     obtain ⟨c1, c2, c3, c4, c5, c6⟩ := HWD.out.2.calm HCA.out hx
     rw [c3, HR0.out, HNR.out]
     exact HTX.out
    have HALL := Lib.hid hall
    have hsz : TX.size ≤ 500 := by rw [← hTX]; exact txt_size _ _ _ (by decide)
    obtain ⟨NT, hNT⟩ : ∃ NT, TX.size = NT := ⟨_, rfl⟩
    rw [hNT] at hsz
    have hNT0 : (0 : Int) ≤ (NT : Int) := by omega
    have hbl := blame_len hte
    rw [HNR.out, hTX, hNT] at hbl
    have HBL := Lib.hid hbl
    obtain ⟨x0, hx0⟩ : ∃ x, X9[0]? = some x := ⟨_, List.getElem?_eq_getElem (by rw [HX9.out]; exact hN1)⟩
    have HXX := Lib.hid hx0
    have HXT := Lib.hid (hall 0 x0 hx0)
    have HNT := Lib.hid hNT
    obtain ⟨X, hX⟩ : ∃ X, blame emp R0 = X := ⟨_, rfl⟩
    rw [hX] at HBL
    have HBX := Lib.hid hX
    clear hTX hte hall hbl hx0 hX HEV HCA
    have hc_ := wtext_B HWD.out HXX.out
    rw [HXT.out] at hc_
    have Hc_ := Lib.hid hc_
    clear hc_
    go_wp2_with fail
    refine Hc_.out.mono ?_
    rintro en w27 ⟨rfl, hb27⟩
    clear Hc_
    replace HWD := Lib.hid (HWD.out.below hb27)
    replace HV := Lib.hid (HV.out.below hb27)
    replace HW := Lib.hid (HW.out.trans (hb27.mono HB.out))
    replace HB : Hid (B ≤ w27.heap.size) := Lib.hid (Nat.le_trans HB.out hb27.size)
    clear hb27
    have hc_ := blame_good emp R0 Aw NR cw _ w27 HV.out.rd (Nat.le_refl _) HTE.out X HBX.out
    have Hc_ := Lib.hid hc_
    clear hc_
    go_wp2_with fail
    refine Hc_.out.mono ?_
    rintro en w28 ⟨A1, n1, c1, rfl, hx, hb28⟩
    clear Hc_
    replace HWD := Lib.hid (HWD.out.below hb28)
    replace HV := Lib.hid (HV.out.below hb28)
    replace HW := Lib.hid (HW.out.trans (hb28.mono HB.out))
    replace HB : Hid (B ≤ w28.heap.size) := Lib.hid (Nat.le_trans HB.out hb28.size)
    clear hb28
    have hn1 : n1 = NT := hx.1.trans HBL.out
    subst hn1
    have hx1 := hx.2.1
    have hx2 : (n1 : Int) ≤ (c1 : Int) := by omega
    clear hx hx1
    go_upto_region 25 with (fail)
    obtain ⟨TL, hTL⟩ : ∃ TL, TX.data.toList = TL := ⟨_, rfl⟩
    have HTL := Lib.hid hTL
    have HTLl : Hid (TL.length = n1) := Lib.hid (by rw [← hTL]; exact hNT)
    have HH0 : Hid (hashL (TL.take 0) = 0) := Lib.hid rfl
    clear hTL
    go_loopw [8, 16, 17, 118] (fun x8 hv x17 iv wr => ∃ (i h : Nat), i ≤ n1 ∧ iv = .int .i64 i ∧ hv = .int .i64 h ∧ Hid (hashL (TL.take i) = h) ∧ wr = w28) (fun _ _ _ iv _ => n1 - (intOf iv).toNat)
    case atStart => exact ⟨0, 0, by omega, rfl, rfl, HH0, rfl⟩
    case round =>
     clear HH0
     obtain ⟨i, h, hi, rfl, rfl, HH, rfl⟩ := hrel
     by_cases hit : i < n1
     · skip
       have hi0 : (0 : Int) ≤ (i : Int) := by omega
       have hiN : (i : Int) < (n1 : Int) := by omega
       have hil : i < TL.length := by rw [HTLl.out]; exact hit
       have hi1 : (i : Int) + 1 ≤ (n1 : Int) := by omega
       have hw1 : IntKind.i64.wrap ((i : Int) + 1) = (i : Int) + 1 := IntWalk.i64_in _ (by omega)
       have ht1 : ((i : Int) + 1).toNat = i + 1 := by omega
       have hle0 : (i : Int) ≤ (i : Int) + 1 := by omega
       have hlt := hashL_lt (TL.take i)
       rw [HH.out] at hlt
       have hxl : (TX.extract i (i + 1)).data.toList = [TL[i]] := by
        have e := HTL.out
        subst e
        have := ext_byte TX i (by rw [HNT.out]; exact hit)
        exact this
       have hof := hof_any (TX.extract i (i + 1)) wr (by
        have : (TX.extract i (i + 1)).data.toList.length = 1 := by rw [hxl]; rfl
        have e : (TX.extract i (i + 1)).size = 1 := this
        omega)
       rw [hxl] at hof
       obtain ⟨hc, hhc⟩ : ∃ hc, hashL [TL[i]] = hc := ⟨_, rfl⟩
       have hlt2 := hashL_lt [TL[i]]
       rw [hhc] at hof hlt2
       have hjn := join_good h hc 1 wr (by decide) (by omega) (by omega)
       obtain ⟨h2, hh2⟩ : ∃ h2, (h * powN 1 + hc) % 2147483647 = h2 := ⟨_, rfl⟩
       rw [hh2] at hjn
       have HH2 : Hid (hashL (TL.take (i + 1)) = h2) := Lib.hid (by
        rw [List.take_succ_eq_append_getElem hil, ← hash_one, HH.out, hhc]
        exact hh2)
       have Hof := Lib.hid hof
       have Hjn := Lib.hid hjn
       clear hof hjn hxl hlt hlt2 hhc hh2 HH
       go_wp2_with fail
       refine Hof.out.mono ?_
       rintro en w9 ⟨rfl, rfl⟩
       go_wp2_with fail
       refine Hjn.out.mono ?_
       rintro en w9 ⟨rfl, rfl⟩
       clear Hof Hjn
       go_wp2_with fail
       go_roundw
       case rel => exact ⟨i + 1, h2, by omega, by go_num, rfl, HH2, trivial⟩
       case measure => simp [intOf]; omega
     · skip
       obtain rfl : i = n1 := by omega
       have HHF : Hid (hashL TL = h) := Lib.hid (by
        have e := HH.out
        rw [List.take_of_length_le (by rw [HTLl.out]; exact Nat.le_refl _)] at e
        exact e)
       clear HH hit
       go_upto_region 32 with (fail)
       go_loopw [19, 20, 21, 22, 23, 137] (fun x19 x20 x21 x22 x23 iv wr => ∃ (j : Nat), j ≤ NR ∧ iv = .int .i64 j ∧ Hid (WdB wr B q s9 X9 put edits e) ∧ Hid (OwnV wr 0 (.slice Aw NR cw) ssw R0) ∧ Hid (Below B w wr) ∧ Hid (B ≤ wr.heap.size)) (fun _ _ _ _ _ iv _ => NR - (intOf iv).toNat)
       case atStart => exact ⟨0, by omega, rfl, HWD, HV, HW, HB⟩
       case round =>
        clear HWD HV HW HB
        obtain ⟨j, hj, rfl, HWD, HV, HW, HB⟩ := hrel
        by_cases hjt : j < NR
        · skip
          have hjl : j < R0.length := by have := HNR.out; omega
          obtain ⟨b, o, Ar, nr, cr, hAw, hbl, d0, d1, d2, hrd⟩ := HV.out.rd.at_ j hjt
          subst hAw
          have hj0 : (0 : Int) ≤ (j : Int) := by omega
          have hjN : (j : Int) < (NR : Int) := by omega
          have hck : chk (R0[j]).2.2 = 0 := one_good (txr_at R0 emp j hjl (txE_parts HTE.out).2.2).1
          obtain ⟨f, hf⟩ : ∃ f, R0[j] = f := ⟨_, rfl⟩
          rw [hf] at d0 d1 hrd hck
          obtain ⟨p, sq, d⟩ := f
          simp only at d0 d1 d2 hrd hck
          have hbw : b < wr.heap.size := hbl
          have HRD := Lib.hid hrd
          have HCK := Lib.hid hck
          clear hck hf hrd
          have kz := Blk.new wr 30 #[.int .i64 p, .int .i64 sq, .slice Ar nr cr]
          have hal := (Below.refl wr.heap.size wr).alloc (Nat.le_refl _) (.cells #[.int .i64 p, .int .i64 sq, .slice Ar nr cr] 30)
          go_upto_region 34 with (fail)
          obtain ⟨gz, hgz⟩ : ∃ gz, wr.heap.size = gz := ⟨_, rfl⟩
          obtain ⟨u1, hu1⟩ : ∃ u1, wr.alloc (.cells #[.int .i64 p, .int .i64 sq, .slice Ar nr cr] 30) = u1 := ⟨_, rfl⟩
          have hgl : gz < u1.heap.size := by rw [← hu1, ← hgz, World.size_alloc]; omega
          rw [hu1] at kz hal ⊢
          rw [hgz] at kz ⊢
          have HRD2 := Lib.hid (HRD.out.step hal)
          have HK := Lib.hid kz
          clear HRD hu1 hgz kz d0 d1 d2 hbw hbl
          replace HWD := Lib.hid (HWD.out.below hal)
          replace HV := Lib.hid (HV.out.below hal)
          replace HW := Lib.hid (HW.out.trans (hal.mono HB.out))
          replace HB : Hid (B ≤ u1.heap.size) := Lib.hid (Nat.le_trans HB.out hal.size)
          clear hal
          have HRD := HRD2
          clear HRD2
          obtain ⟨S, hS⟩ := wr_some d
          have HS := Lib.hid hS
          have hSz : S.size ≤ 140737488351232 := by
           have e : S.data.toList.length = S.size := by simp
           have := wrL_most HCK.out
           rw [← hS] at this
           omega
          clear hS
          have z2 := HK.out.cell 2
          have lz := HK.out.lt
          have hc_ := cwrite_good d Ar nr cr _ u1 S HRD.out (Nat.le_refl _) HCK.out HS.out
          have Hc9 := Lib.hid hc_
          clear hc_
          have hc_ := Hc9.out
          have Hc_ := Lib.hid hc_
          clear hc_
          go_wp2_with fail
          refine Hc_.out.mono ?_
          rintro en w69 ⟨rfl, hb69⟩
          clear Hc_
          replace HWD := Lib.hid (HWD.out.below hb69)
          replace HV := Lib.hid (HV.out.below hb69)
          replace HRD := Lib.hid (HRD.out.step hb69)
          replace HK := Lib.hid (HK.out.below hb69 HK.out.lt)
          replace HW := Lib.hid (HW.out.trans (hb69.mono HB.out))
          replace HB : Hid (B ≤ w69.heap.size) := Lib.hid (Nat.le_trans HB.out hb69.size)
          clear hb69
          clear Hc9 z2 lz
          have hc_ := cread_rd S w69 hSz
          rw [HS.out, (read_back HCK.out).1, (read_back HCK.out).2] at hc_
          have Hc_ := Lib.hid hc_
          clear hc_
          go_wp2_with fail
          refine Hc_.out.mono ?_
          rintro en w70 ⟨A5, c5, rfl, hr5, hb70⟩
          clear Hc_
          replace HWD := Lib.hid (HWD.out.below hb70)
          replace HV := Lib.hid (HV.out.below hb70)
          replace HRD := Lib.hid (HRD.out.step hb70)
          replace HK := Lib.hid (HK.out.below hb70 HK.out.lt)
          replace HW := Lib.hid (HW.out.trans (hb70.mono HB.out))
          replace HB : Hid (B ≤ w70.heap.size) := Lib.hid (Nat.le_trans HB.out hb70.size)
          clear hb70
          have hs5 := same_true d d A5 Ar d.length nr c5 cr _ _ w70 hr5 HRD.out rfl
          have Hs5 := Lib.hid hs5
          have z2 := HK.out.cell 2
          have lz := HK.out.lt
          clear hr5 hs5
          have hc_ := Hs5.out
          have Hc_ := Lib.hid hc_
          clear hc_
          go_wp2_with fail
          refine Hc_.out.mono ?_
          rintro en w71 ⟨rfl, hb71⟩
          clear Hc_
          replace HWD := Lib.hid (HWD.out.below hb71)
          replace HV := Lib.hid (HV.out.below hb71)
          replace HRD := Lib.hid (HRD.out.step hb71)
          replace HK := Lib.hid (HK.out.below hb71 HK.out.lt)
          replace HW := Lib.hid (HW.out.trans (hb71.mono HB.out))
          replace HB : Hid (B ≤ w71.heap.size) := Lib.hid (Nat.le_trans HB.out hb71.size)
          clear hb71
          clear Hs5 z2 lz
          go_wp2_with fail
          go_roundw
          case rel => exact ⟨j + 1, by omega, by go_num, HWD, HV, HW, HB⟩
          case measure => simp [intOf]; omega
        · skip
          obtain rfl : NR = j := by omega
          clear HV hjt
          go_upto_region 40 with (fail)
          go_loopw [24, 25, 26, 167] (fun x24 x25 x26 iv wr => ∃ (a : Nat), a ≤ N ∧ iv = .int .i64 a ∧ Hid (WdB wr B q s9 X9 put edits e) ∧ Hid (Below B w wr) ∧ Hid (B ≤ wr.heap.size)) (fun _ _ _ iv _ => N - (intOf iv).toNat)
          case atStart => exact ⟨0, by omega, rfl, HWD, HW, HB⟩
          case round =>
           clear HWD HW HB
           obtain ⟨a, ha, rfl, HWD, HW, HB⟩ := hrel
           by_cases hat : a < N
           · skip
             have ha0 : (0 : Int) ≤ (a : Int) := by omega
             have haN : (a : Int) < (N : Int) := by omega
             obtain ⟨xa, hxa⟩ : ∃ x, X9[a]? = some x := ⟨_, List.getElem?_eq_getElem (by rw [HX9.out]; exact hat)⟩
             have HXa := Lib.hid hxa
             have HXTa := Lib.hid (HALL.out a xa hxa)
             clear hxa
             have hc_ := wtext_B HWD.out HXa.out
             rw [HXTa.out] at hc_
             have Hc_ := Lib.hid hc_
             clear hc_
             go_wp2_with fail
             refine Hc_.out.mono ?_
             rintro en w89 ⟨rfl, hb89⟩
             clear Hc_
             replace HWD := Lib.hid (HWD.out.below hb89)
             replace HW := Lib.hid (HW.out.trans (hb89.mono HB.out))
             replace HB : Hid (B ≤ w89.heap.size) := Lib.hid (Nat.le_trans HB.out hb89.size)
             clear hb89
             go_wp2_with fail
             go_roundw
             case rel => exact ⟨a + 1, by omega, by go_num, HWD, HW, HB⟩
             case measure => simp [intOf]; omega
           · skip
             obtain rfl : a = N := by omega
             have hof := hof_any TX wr (by rw [HNT.out]; omega)
             rw [HTL.out, HHF.out] at hof
             have Hof := Lib.hid hof
             clear hof
             go_wp2_with fail
             refine Hof.out.mono ?_
             rintro en w9 ⟨rfl, rfl⟩
             clear Hof
             go_wp2_with fail
             go_ret
             exact ⟨rfl, HBw.out ▸ HW.out⟩
end Go.Proofs.Ytokngfinnieccaa
