/- Contract of num.Get and what it makes. Numbers written and read; what is read is written as it was. Deltas as bytes; plain lists. What a slot says: a log as a struct of 38 cells. Contracts of code.put, code.Write. -/
import Derived.Test.YtokngfinnieccaaU4
import Derived.Test.YtokngfinnieccaaU3
import Derived.Test.YtokngfinnieccaaU2
namespace Go.Proofs.Ytokngfinnieccaa
open Go.ChangeShapes Go.WideShapes Go.RowKit
set_option linter.unusedVariables false
set_option linter.unusedSimpArgs false
set_option maxRecDepth 100000
set_option maxHeartbeats 4000000
def gn : List UInt8 → Nat → Nat → Nat × Nat × Nat
 | [], _, _ => (0, 0, 5)
 | c :: r, i, n =>
   let n' := n + c.toNat % 128 * 2 ^ (7 * i)
   if c.toNat < 128 then (if (c.toNat = 0 ∧ 0 < i) ∨ 2147483647 < n' then (0, 0, 3) else (n', i + 1, 0))
   else if i = 4 then (0, 0, 3) else gn r (i + 1) n'
theorem gn_cons (c : UInt8) (r : List UInt8) (i n N : Nat) (hN : N = n + c.toNat % 128 * 2 ^ (7 * i)) :
 gn (c :: r) i n = if c.toNat < 128 then (if (c.toNat = 0 ∧ 0 < i) ∨ 2147483647 < N then (0, 0, 3) else (N, i + 1, 0)) else if i = 4 then (0, 0, 3) else gn r (i + 1) N := by
 subst hN; rfl
theorem and127 (c : UInt8) : bits BinOp.and IntKind.i64 (c.toNat : Int) 127 = ((c.toNat % 128 : Nat) : Int) := by
 have : ∀ k : Fin 256, bits BinOp.and IntKind.i64 (k.val : Int) 127 = ((k.val % 128 : Nat) : Int) := by decide +kernel
 exact this ⟨c.toNat, c.toNat_lt⟩
theorem or_add (m x k : Nat) (hm : m < 2 ^ k) (hb : m + x * 2 ^ k < 9223372036854775808) : bits BinOp.or IntKind.i64 (m : Int) ((x * 2 ^ k : Nat) : Int) = ((m + x * 2 ^ k : Nat) : Int) := by
 have h1 : BitVec.ofInt 64 (m : Int) = BitVec.ofNat 64 m := by simp
 have h2 : BitVec.ofInt 64 ((x * 2 ^ k : Nat) : Int) = BitVec.ofNat 64 (x * 2 ^ k) := BitVec.ofInt_natCast ..
 have e : m ||| x * 2 ^ k = m + x * 2 ^ k := by
  rw [← Nat.shiftLeft_eq, Nat.or_comm, ← Nat.shiftLeft_add_eq_or_of_lt hm]; omega
 show IntKind.i64.wrap _ = _
 rw [show IntKind.i64.bits = 64 from rfl, h1, h2]
 rw [BitVec.toNat_or, BitVec.toNat_ofNat, BitVec.toNat_ofNat, Nat.mod_eq_of_lt (by omega), Nat.mod_eq_of_lt (by omega), e]
 exact IntWalk.i64_in _ ⟨by omega, by omega⟩
theorem get_bits (m k : Nat) (c : UInt8) (hk : k ≤ 4) (hm : m < 2 ^ (7 * k)) :
 bits BinOp.or IntKind.i64 (m : Int) (wrap64 (bits BinOp.and IntKind.i64 (c.toNat : Int) 127 * 2 ^ (7 * k))) = ((m + c.toNat % 128 * 2 ^ (7 * k) : Nat) : Int) := by
 have hp : 2 ^ (7 * k) ≤ 2 ^ 28 := Nat.pow_le_pow_right (by omega) (by omega)
 have hx : c.toNat % 128 * 2 ^ (7 * k) ≤ 127 * 2 ^ 28 := Nat.mul_le_mul (by omega) hp
 rw [and127]
 have e : ((c.toNat % 128 : Nat) : Int) * 2 ^ (7 * k) = ((c.toNat % 128 * 2 ^ (7 * k) : Nat) : Int) := by
  rw [Int.natCast_mul]; congr 1
 rw [e, IntWalk.wrap64_in _ ⟨by omega, by omega⟩, or_add _ _ _ hm (by omega)]
theorem get_any (s : ByteArray) (w : World) (hs : s.size ≤ 9223372036854775807) :
 Calls Try.prog 108 #[.string s] w fun e w' =>
  e = .returned (.tuple #[.int .i64 (gn s.data.toList 0 0).1, .int .i64 (gn s.data.toList 0 0).2.1, .int .i64 (gn s.data.toList 0 0).2.2]) ∧ w = w' := by
 go_enter Try.func108, Try.ntmps108
 go_wp2_with fail
 go_loop [5, 10] (fun n i => ∃ k m : Nat, k ≤ 4 ∧ k ≤ s.size ∧ i = .int .i64 k ∧ n = .int .i64 m ∧ m < 34359738368 ∧ Hid (m < 2 ^ (7 * k)) ∧ Hid (gn (s.data.toList.drop k) k m = gn s.data.toList 0 0)) (fun _ i => s.size - (intOf i).toNat)
 case atStart => exact ⟨0, 0, by omega, by omega, rfl, rfl, by omega, Lib.hid (by simp), Lib.hid (by simp)⟩
 case round =>
  obtain ⟨k, m, hk, hks, rfl, rfl, hm0, hm, hg⟩ := hrel
  by_cases hlt : k < s.size
  · have hE := get_bits m k s[k] hk hm.out
    have hg2 : Hid (gn s.data.toList 0 0 = gn (s[k] :: s.data.toList.drop (k + 1)) k m) := by
     rw [← hg.out, List.drop_eq_getElem_cons (by simpa using hlt)]; exact Lib.hid rfl
    clear hg
    obtain ⟨N, hN⟩ : ∃ N, N = m + s[k].toNat % 128 * 2 ^ (7 * k) := ⟨_, rfl⟩
    rw [← hN] at hE
    have HN := Lib.hid hN
    clear hN
    have hcl : (s[k].toNat : Int) < 256 := by have := s[k].toNat_lt; omega
    have hmN : N < 34359738368 := by
     have hp : 2 ^ (7 * k) ≤ 2 ^ 28 := Nat.pow_le_pow_right (by omega) (by omega)
     have hx : s[k].toNat % 128 * 2 ^ (7 * k) ≤ 127 * 2 ^ 28 := Nat.mul_le_mul (by omega) hp
     have := HN.out
     have := hm.out
     omega
    have hmN2 : Hid (N < 2 ^ (7 * (k + 1))) := by
     have hx : s[k].toNat % 128 * 2 ^ (7 * k) ≤ 127 * 2 ^ (7 * k) := Nat.mul_le_mul (by omega) (Nat.le_refl _)
     have e : 2 ^ (7 * (k + 1)) = 128 * 2 ^ (7 * k) := by rw [Nat.mul_add, Nat.pow_add]; omega
     have := HN.out
     have := hm.out
     exact Lib.hid (by rw [e]; omega)
    clear hm
    by_cases hc : (s[k].toNat : Int) < 128
    · by_cases hbad : (s[k].toNat = 0 ∧ 0 < k) ∨ 2147483647 < N
      · have HG : Hid (gn s.data.toList 0 0 = (0, 0, 3)) := by
         rw [hg2.out, gn_cons _ _ _ _ _ HN.out, if_pos (by omega), if_pos hbad]; exact Lib.hid rfl
        clear hg2 HN
        have hb2 : s[k].toNat = 0 → k = 0 → 2147483647 < N := by omega
        have hb3 : ¬ s[k].toNat = 0 → 2147483647 < N := by omega
        clear hbad
        go_wp2_with fail
        all_goals first | omega | (exfalso; have := hb2 (by assumption) (by assumption); omega) | (exfalso; have := hb3 (by assumption); omega) | (go_ret3; exact ⟨by rw [HG.out]; rfl, rfl⟩)
      · have HG : Hid (gn s.data.toList 0 0 = (N, k + 1, 0)) := by
         rw [hg2.out, gn_cons _ _ _ _ _ HN.out, if_pos (by omega), if_neg hbad]; exact Lib.hid rfl
        clear hg2 HN
        have hb1 : (N : Int) ≤ 2147483647 := by omega
        have hb2 : s[k].toNat = 0 → k = 0 := by omega
        clear hbad
        go_wp2_with fail
        all_goals first | (exfalso; have := hb2 (by assumption); omega) | (go_ret3; exact ⟨by rw [HG.out]; first | rfl | (rw [show k = 0 from by assumption]; rfl), rfl⟩)
    · by_cases h4 : (k : Int) = 4
      · have HG : Hid (gn s.data.toList 0 0 = (0, 0, 3)) := by
         rw [hg2.out, gn_cons _ _ _ _ _ HN.out, if_neg (by omega), if_pos (by omega)]; exact Lib.hid rfl
        clear hg2 HN
        have h4' : ((k : Int) == 4) = true := by simpa using h4
        clear h4
        go_wp2_with fail
        all_goals (go_ret3; exact ⟨by rw [HG.out]; rfl, rfl⟩)
      · have HG : Hid (gn (s.data.toList.drop (k + 1)) (k + 1) N = gn s.data.toList 0 0) := by
         rw [hg2.out, gn_cons _ _ _ _ _ HN.out, if_neg (by omega), if_neg (by omega)]; exact Lib.hid rfl
        clear hg2 HN
        have h4' : ((k : Int) == 4) = false := by simpa using h4
        go_wp2_with fail
        go_round
        case rel => exact ⟨k + 1, N, by omega, by omega, by go_num, rfl, hmN, hmN2, HG⟩
        case measure => simp [intOf]; omega
  · have HG : Hid (gn s.data.toList 0 0 = (0, 0, 5)) := by
     rw [← hg.out, List.drop_eq_nil_of_le (by simpa using hlt)]; exact Lib.hid rfl
    go_wp2_with fail
    go_ret3
    exact ⟨by rw [HG.out]; rfl, rfl⟩
theorem get_val (s : ByteArray) (w : World) (hs : s.size ≤ 9223372036854775807) {a b c : Nat} (h : gn s.data.toList 0 0 = (a, b, c)) :
 Calls Try.prog 108 #[.string s] w fun e w' => e = .returned (.tuple #[.int .i64 a, .int .i64 b, .int .i64 c]) ∧ w = w' := by
 refine (get_any s w hs).mono fun e w' ⟨he, hw⟩ => ⟨?_, hw⟩
 rw [he, h]
theorem vi_head (n : Nat) (r : List UInt8) (h : 128 ≤ n) : vi n ++ r = UInt8.ofNat (n % 128 + 128) :: (vi (n / 128) ++ r) := by
 rw [vi_ge n h]; rfl
theorem toNat_ofNat (x : Nat) (h : x < 256) : (UInt8.ofNat x).toNat = x := by
 simp [UInt8.toNat_ofNat']; omega
theorem gn_vi (j : Nat) : ∀ (i n m : Nat) (r : List UInt8), i + j = 4 → n < 128 ^ (j + 1) → (0 < i → 0 < n) → m + n * 2 ^ (7 * i) ≤ 2147483647 →
 gn (vi n ++ r) i m = (m + n * 2 ^ (7 * i), i + (vi n).length, 0) := by
 induction j with
 | zero =>
   intro i n m r hi hn h0 hb
   have hn' : n < 128 := by simpa using hn
   rw [vi_lt n hn', List.singleton_append, gn_cons _ _ _ _ (m + n * 2 ^ (7 * i)) (by rw [toNat_ofNat n (by omega), Nat.mod_eq_of_lt hn'])]
   rw [toNat_ofNat n (by omega), if_pos hn', if_neg (by omega)]
   rfl
 | succ j ih =>
   intro i n m r hi hn h0 hb
   by_cases hn' : n < 128
   · rw [vi_lt n hn', List.singleton_append, gn_cons _ _ _ _ (m + n * 2 ^ (7 * i)) (by rw [toNat_ofNat n (by omega), Nat.mod_eq_of_lt hn'])]
     rw [toNat_ofNat n (by omega), if_pos hn', if_neg (by omega)]
     rfl
   · have e7 : 2 ^ (7 * (i + 1)) = 128 * 2 ^ (7 * i) := by rw [Nat.mul_add, Nat.pow_add]; omega
     have e8 : n * 2 ^ (7 * i) = n % 128 * 2 ^ (7 * i) + n / 128 * 2 ^ (7 * (i + 1)) := by
      rw [e7, ← Nat.mul_assoc, ← Nat.add_mul]; congr 1; omega
     rw [vi_head n r (by omega), gn_cons _ _ _ _ (m + n % 128 * 2 ^ (7 * i)) (by rw [toNat_ofNat _ (by omega)]; congr 2; omega)]
     rw [toNat_ofNat _ (by omega), if_neg (by omega), if_neg (by omega)]
     rw [ih (i + 1) (n / 128) _ r (by omega) (by rw [Nat.pow_succ] at hn; omega) (by omega) (by omega)]
     rw [vi_ge n (by omega), e8]
     simp
     omega
theorem gn_inv : ∀ (s : List UInt8) (i n a j : Nat), gn s i n = (a, j, 0) → ∃ x, a = n + x * 2 ^ (7 * i) ∧ vi x = s.take (j - i) ∧ i < j ∧ j - i ≤ s.length ∧ (0 < i → 0 < x) ∧ a ≤ 2147483647
 | [], i, n, a, j, h => by simp [gn] at h
 | c :: r, i, n, a, j, h => by
   rw [gn_cons c r i n _ rfl] at h
   split at h
   · rename_i hc
     split at h
     · simp at h
     · rename_i hz
       simp only [Prod.mk.injEq, and_true] at h
       obtain ⟨rfl, rfl⟩ := h
       have hm : c.toNat % 128 = c.toNat := Nat.mod_eq_of_lt hc
       refine ⟨c.toNat, by rw [hm], ?_, by omega, by simp only [List.length_cons]; omega, by omega, by omega⟩
       rw [vi_lt _ hc, show i + 1 - i = 1 by omega]
       simp
   · rename_i hc
     split at h
     · simp at h
     · obtain ⟨x, h1, h2, h3, h4, h5, h6⟩ := gn_inv r (i + 1) _ a j h
       have e7 : 2 ^ (7 * (i + 1)) = 128 * 2 ^ (7 * i) := by rw [Nat.mul_add, Nat.pow_add]; omega
       have hx := h5 (by omega)
       have hc2 : c.toNat < 256 := c.toNat_lt
       refine ⟨c.toNat % 128 + 128 * x, ?_, ?_, by omega, by simp only [List.length_cons]; omega, by omega, h6⟩
       · rw [h1, e7, Nat.add_mul, Nat.mul_assoc, Nat.mul_left_comm 128 x]
         rw [← Nat.mul_assoc x 128]
         rw [Nat.mul_comm x 128, Nat.mul_assoc]
         omega
       · rw [vi_ge _ (by omega), show (c.toNat % 128 + 128 * x) / 128 = x by omega, h2, show j - i = (j - (i + 1)) + 1 by omega, List.take_succ_cons]
         congr 1
         have : (c.toNat % 128 + 128 * x) % 128 + 128 = c.toNat := by omega
         rw [this]
         simp
end Go.Proofs.Ytokngfinnieccaa
namespace Go.Proofs.Ytokngfinnieccaa
set_option linter.unusedVariables false
set_option linter.unusedSimpArgs false
set_option maxRecDepth 100000
set_option maxHeartbeats 4000000
def wrP (p : Pt) : List UInt8 := if p.1 = 2 then vi (4 * p.2.2.size + 2) ++ p.2.2.data.toList else vi (4 * p.2.1.toNat + p.1.toNat)
def wrL (l : List Pt) : List UInt8 := vi l.length ++ l.flatMap wrP
def rN (s : List UInt8) : Nat × List UInt8 × Bool := if (gn s 0 0).2.2 = 0 then ((gn s 0 0).1, s.drop (gn s 0 0).2.1, false) else (0, s, true)
def rP (s : List UInt8) : Pt × List UInt8 × Bool :=
 if (rN s).1 % 4 = 2 then (if (rN s).2.1.length < (rN s).1 / 4 then ((2, 0, emp), (rN s).2.1, true) else ((2, 0, ⟨((rN s).2.1.take ((rN s).1 / 4)).toArray⟩), (rN s).2.1.drop ((rN s).1 / 4), (rN s).2.2))
 else ((((rN s).1 % 4 : Nat), ((rN s).1 / 4 : Nat), emp), (rN s).2.1, (rN s).2.2)
def rL : Nat → List UInt8 → Bool → List Pt → List Pt × List UInt8 × Bool
 | 0, s, bad, out => (out, s, bad)
 | n + 1, s, bad, out => if bad = true then (out, s, bad) else rL n (rP s).2.1 (rP s).2.2 (out ++ [(rP s).1])
def readR (s : List UInt8) : List Pt × List UInt8 × Bool := rL (rN s).1 (rN s).2.1 (rN s).2.2 []
def readE (s : List UInt8) : Int := if (readR s).2.2 = true ∨ (readR s).2.1 ≠ [] ∨ chk (readR s).1 ≠ 0 then 3 else 0
def readL (s : List UInt8) : List Pt := if readE s = 0 then (readR s).1 else []
theorem rN_vi (n : Nat) (h : n ≤ 2147483647) (r : List UInt8) : rN (vi n ++ r) = (n, r, false) := by
 have h1 := gn_vi 4 0 n 0 r (by omega) (by simp; omega) (by omega) (by simp; omega)
 simp only [Nat.zero_add, Nat.mul_zero, Nat.pow_zero, Nat.mul_one] at h1
 unfold rN
 rw [h1]
 simp
theorem rP_wr (p : Pt) (h : fitE p = 0) (r : List UInt8) : rP (wrP p ++ r) = (p, r, false) := by
 obtain ⟨h1, h2, h3⟩ := (fitE_zero p).1 h
 obtain ⟨k, n, t⟩ := p
 have hts : t.data.toList.length = t.size := rfl
 rcases h1 with ⟨h1, h4, h5⟩ | ⟨h1, h4, h5⟩
 · simp only at h1 h2 h3 h4 h5
   subst h5
   have hk : k ≠ 2 := by omega
   have e : wrP ((k, n, emp) : Pt) = vi (4 * n.toNat + k.toNat) := by unfold wrP; rw [if_neg hk]
   rw [e]
   unfold rP
   rw [rN_vi _ (by omega)]
   simp only
   rw [if_neg (by omega)]
   have e1 : (((4 * n.toNat + k.toNat) % 4 : Nat) : Int) = k := by omega
   have e2 : (((4 * n.toNat + k.toNat) / 4 : Nat) : Int) = n := by omega
   rw [e1, e2]
 · simp only at h1 h2 h3 h4 h5
   subst h1 h4
   have e : wrP ((2, 0, t) : Pt) = vi (4 * t.size + 2) ++ t.data.toList := by unfold wrP; rw [if_pos rfl]
   rw [e, List.append_assoc]
   unfold rP
   rw [rN_vi _ (by omega)]
   simp only
   have e1 : (4 * t.size + 2) / 4 = t.size := by omega
   rw [if_pos (by omega), e1, if_neg (by rw [List.length_append, hts]; omega)]
   have e2 : (t.data.toList ++ r).take t.size = t.data.toList := by rw [← hts, List.take_left']; rfl
   have e3 : (t.data.toList ++ r).drop t.size = r := by rw [← hts, List.drop_left']; rfl
   rw [e2, e3, ba_eta]
theorem rL_wr : ∀ (l : List Pt) (out : List Pt) (r : List UInt8), (∀ p ∈ l, fitE p = 0) → rL l.length (l.flatMap wrP ++ r) false out = (out ++ l, r, false)
 | [], out, r, _ => by simp [rL]
 | p :: l, out, r, h => by
   rw [List.flatMap_cons, List.append_assoc, List.length_cons]
   simp only [rL]
   rw [if_neg (by simp), rP_wr p (h p (by simp))]
   simp only
   rw [rL_wr l _ r fun q hq => h q (by simp [hq]), List.append_assoc]
   rfl
theorem readR_wr {l : List Pt} (h : chk l = 0) (r : List UInt8) : readR (wrL l ++ r) = (l, r, false) := by
 have hp := chk_parts h
 unfold readR wrL
 rw [List.append_assoc, rN_vi _ (by omega)]
 simp only
 rw [rL_wr l [] r hp.2.2.2.2.2]
 simp
theorem read_back {l : List Pt} (h : chk l = 0) : readE (wrL l) = 0 ∧ readL (wrL l) = l := by
 have h1 := readR_wr h []
 rw [List.append_nil] at h1
 have e : readE (wrL l) = 0 := by
  unfold readE
  rw [h1, if_neg (by simp [h])]
 refine ⟨e, ?_⟩
 unfold readL
 rw [if_pos e, h1]
theorem rN_inv {s s1 : List UInt8} {n : Nat} (h : rN s = (n, s1, false)) : vi n ++ s1 = s ∧ n ≤ 2147483647 := by
 unfold rN at h
 split at h
 · rename_i h0
   simp only [Prod.mk.injEq, and_true] at h
   obtain ⟨h1, h2⟩ := h
   obtain ⟨x, q1, q2, q3, q4, q5, q6⟩ := gn_inv s 0 0 (gn s 0 0).1 (gn s 0 0).2.1 (Prod.ext rfl (Prod.ext rfl h0))
   simp only [Nat.zero_add, Nat.mul_zero, Nat.pow_zero, Nat.mul_one, Nat.sub_zero] at q1 q2
   rw [← h1, ← h2, q1, q2]
   exact ⟨List.take_append_drop _ _, by omega⟩
 · simp at h
theorem rP_inv {s s1 : List UInt8} {p : Pt} (h : rP s = (p, s1, false)) : wrP p ++ s1 = s := by
 rcases hr : rN s with ⟨n, s2, b⟩
 unfold rP at h
 rw [hr] at h
 simp only at h
 split at h
 · rename_i h2
   split at h
   · simp at h
   · rename_i h3
     simp only [Prod.mk.injEq] at h
     obtain ⟨h4, h5, h6⟩ := h
     subst h6
     obtain ⟨q1, q2⟩ := rN_inv hr
     rw [← h4, ← h5]
     unfold wrP
     rw [if_pos rfl]
     simp only
     have hsz : (⟨(s2.take (n / 4)).toArray⟩ : ByteArray).size = n / 4 := by
      show (s2.take (n / 4)).toArray.size = n / 4
      rw [List.size_toArray, List.length_take]; omega
     rw [hsz, show 4 * (n / 4) + 2 = n by omega, List.append_assoc]
     have : (s2.take (n / 4)).toArray.toList ++ s2.drop (n / 4) = s2 := by simp
     rw [this]; exact q1
 · rename_i h2
   simp only [Prod.mk.injEq] at h
   obtain ⟨h4, h5, h6⟩ := h
   subst h6
   obtain ⟨q1, q2⟩ := rN_inv hr
   rw [← h4, ← h5]
   unfold wrP
   simp only
   rw [if_neg (by omega), Int.toNat_natCast, Int.toNat_natCast, show 4 * (n / 4) + n % 4 = n by omega]
   exact q1
theorem rL_inv : ∀ (n : Nat) (s : List UInt8) (out out' : List Pt) (s' : List UInt8), rL n s false out = (out', s', false) → ∃ l, out' = out ++ l ∧ l.length = n ∧ l.flatMap wrP ++ s' = s
 | 0, s, out, out', s', h => by
   simp only [rL, Prod.mk.injEq, and_true] at h
   exact ⟨[], by simp [h.1], rfl, by simp [h.2]⟩
 | n + 1, s, out, out', s', h => by
   simp only [rL] at h
   rw [if_neg (by simp)] at h
   rcases hr : rP s with ⟨p, s1, b⟩
   rw [hr] at h
   simp only at h
   cases b with
   | true =>
     exfalso
     cases n <;> simp [rL] at h
   | false =>
     obtain ⟨l, h1, h2, h3⟩ := rL_inv n s1 _ _ _ h
     refine ⟨p :: l, by rw [h1]; simp, by simp [h2], ?_⟩
     rw [List.flatMap_cons, List.append_assoc, h3]
     exact rP_inv hr
theorem read_one {s : List UInt8} (h : readE s = 0) : chk (readL s) = 0 ∧ wrL (readL s) = s := by
 have e : readL s = (readR s).1 := by unfold readL; rw [if_pos h]
 rw [e]
 unfold readE at h
 split at h
 · omega
 · rename_i h0
   have h1 : (readR s).2.2 = false := by
    rcases hb : (readR s).2.2 with _ | _
    · rfl
    · exact absurd (.inl hb) h0
   have h2 : (readR s).2.1 = [] := Decidable.byContradiction fun h => h0 (.inr (.inl h))
   have h3 : chk (readR s).1 = 0 := Decidable.byContradiction fun h => h0 (.inr (.inr h))
   refine ⟨h3, ?_⟩
   rcases hn : rN s with ⟨n, s1, b⟩
   have hR : readR s = rL n s1 b [] := by unfold readR; rw [hn]
   cases b with
   | true =>
     exfalso
     rw [hR] at h1
     cases n <;> simp [rL] at h1
   | false =>
     obtain ⟨q1, q2⟩ := rN_inv hn
     have hx : rL n s1 false [] = ((readR s).1, [], false) := by rw [← hR, ← h1, ← h2]
     obtain ⟨l, r1, r2, r3⟩ := rL_inv n s1 [] _ _ hx
     rw [List.nil_append] at r1
     rw [List.append_nil] at r3
     unfold wrL
     rw [r1, r2, r3]; exact q1
theorem wrP_len (p : Pt) (h : fitE p = 0) : (wrP p).length ≤ 505 := by
 obtain ⟨h1, h2, h3⟩ := (fitE_zero p).1 h
 have ht : p.2.2.data.toList.length = p.2.2.size := rfl
 unfold wrP
 split
 · rw [List.length_append, ht]
   have := vi_len 5 (4 * p.2.2.size + 2) (by omega) (by omega)
   omega
 · have : (4 * p.2.1.toNat + p.1.toNat) < 128 ^ 5 := by
    rcases h1 with ⟨h1, h4, h5⟩ | ⟨h1, h4, h5⟩ <;> omega
   have := vi_len 5 _ this (by omega)
   omega
theorem wr_len : ∀ (l : List Pt), (∀ p ∈ l, fitE p = 0) → (l.flatMap wrP).length ≤ 505 * l.length
 | [], _ => Nat.le_refl _
 | p :: l, h => by
   have h1 := wrP_len p (h p (by simp))
   have h2 := wr_len l fun q hq => h q (by simp [hq])
   rw [List.flatMap_cons, List.length_append, List.length_cons]; omega
end Go.Proofs.Ytokngfinnieccaa
namespace Go.Proofs.Ytokngfinnieccaa
open Go.ChangeShapes Go.WideShapes Go.RowKit
set_option linter.unusedVariables false
set_option linter.unusedSimpArgs false
set_option maxRecDepth 100000
set_option maxHeartbeats 4000000
abbrev Tb := List (Int × Int)
structure Lg where
 gen : Int
 base : Int
 text : ByteArray
 first : Tb
 table : Tb
 revs : List Rv
 whole : Bool
 good : Int
def tc (t : Tb) : List Value := t.flatMap fun p => [.int .i64 p.1, .int .i64 p.2]
theorem tc_len : ∀ t : Tb, (tc t).length = t.length * 2
 | [] => rfl
 | p :: t => by have := tc_len t; simp only [tc, List.flatMap_cons, List.length_append, List.length_cons, List.length_nil] at this ⊢; omega
theorem tc_cons (p : Int × Int) (t : Tb) : tc (p :: t) = .int .i64 p.1 :: .int .i64 p.2 :: tc t := rfl
theorem tc_at : ∀ (t : Tb) (i : Nat) (h : i < t.length), (tc t)[i * 2]? = some (.int .i64 t[i].1) ∧ (tc t)[i * 2 + 1]? = some (.int .i64 t[i].2)
 | [], i, h => by simp at h
 | p :: t, 0, h => ⟨rfl, rfl⟩
 | p :: t, i + 1, h => by
   have := tc_at t i (by simpa using h)
   rw [tc_cons, show (i + 1) * 2 = i * 2 + 1 + 1 by omega]
   exact this
theorem tc_set : ∀ (t : Tb) (i : Nat) (a b : Int), ((tc t).set (i * 2) (.int .i64 a)).set (i * 2 + 1) (.int .i64 b) = tc (t.set i (a, b))
 | [], i, a, b => by simp [tc]
 | p :: t, 0, a, b => rfl
 | p :: t, i + 1, a, b => by
   rw [tc_cons, show (i + 1) * 2 = i * 2 + 1 + 1 by omega]
   simp only [List.set_cons_succ]
   rw [tc_set t i a b]
   rfl
def lgl (l : Lg) (s : Sl) : List Value := [.int .i64 l.gen, .int .i64 l.base, .string l.text] ++ (tc l.first ++ (tc l.table ++ [.slice s.1 s.2.1 s.2.2, .bool l.whole, .int .i64 l.good]))
def lgc (l : Lg) (s : Sl) : Array Value := (lgl l s).toArray
def Lg8 (l : Lg) : Prop := l.first.length = 8 ∧ l.table.length = 8
section
variable {l : Lg} {s : Sl}
theorem lgl_len (h : Lg8 l) : (lgl l s).length = 38 := by simp [lgl, tc_len, h.1, h.2]
theorem lgc_size (h : Lg8 l) : (lgc l s).size = 38 := by simp [lgc, lgl_len h]
theorem lgc_at (i : Nat) : (lgc l s)[i]? = (lgl l s)[i]? := by simp [lgc]
theorem lgc_base : (lgc l s)[1]? = some (.int .i64 l.base) := rfl
theorem lgc_text : (lgc l s)[2]? = some (.string l.text) := rfl
theorem lgl_tail (h : Lg8 l) (i : Nat) : (lgl l s)[35 + i]? = ([.slice s.1 s.2.1 s.2.2, .bool l.whole, .int .i64 l.good] : List Value)[i]? := by
 unfold lgl
 rw [List.getElem?_append_right (by simp; omega), List.getElem?_append_right (by simp [tc_len, h.1]; omega), List.getElem?_append_right (by simp [tc_len, h.1, h.2]; omega)]
 congr 1
 simp [tc_len, h.1, h.2]
 omega
theorem lgc_revs (h : Lg8 l) : (lgc l s)[35]? = some (.slice s.1 s.2.1 s.2.2) := by rw [lgc_at]; exact lgl_tail h 0
theorem lgl_first (h : Lg8 l) (i : Nat) (hi : i < 16) : (lgl l s)[3 + i]? = (tc l.first)[i]? := by
 unfold lgl
 rw [List.getElem?_append_right (by simp), List.getElem?_append_left (by simp [tc_len, h.1]; omega)]
 congr 1
 simp
theorem lgl_table (h : Lg8 l) (i : Nat) (hi : i < 16) : (lgl l s)[19 + i]? = (tc l.table)[i]? := by
 unfold lgl
 rw [List.getElem?_append_right (by simp; omega), List.getElem?_append_right (by simp [tc_len, h.1]; omega), List.getElem?_append_left (by simp [tc_len, h.1, h.2]; omega)]
 congr 1
 simp [tc_len, h.1]
 omega
theorem lgc_first (h : Lg8 l) (i : Nat) (hi : i < 8) : (lgc l s)[3 + i * 2]? = some (.int .i64 (l.first[i]'(by have := h.1; omega)).1) ∧ (lgc l s)[3 + i * 2 + 1]? = some (.int .i64 (l.first[i]'(by have := h.1; omega)).2) := by
 have := tc_at l.first i (by have := h.1; omega)
 rw [lgc_at, lgc_at, Nat.add_assoc, lgl_first h _ (by omega), lgl_first h _ (by omega)]
 exact this
theorem lgc_table (h : Lg8 l) (i : Nat) (hi : i < 8) : (lgc l s)[19 + i * 2]? = some (.int .i64 (l.table[i]'(by have := h.2; omega)).1) ∧ (lgc l s)[19 + i * 2 + 1]? = some (.int .i64 (l.table[i]'(by have := h.2; omega)).2) := by
 have := tc_at l.table i (by have := h.2; omega)
 rw [lgc_at, lgc_at, Nat.add_assoc, lgl_table h _ (by omega), lgl_table h _ (by omega)]
 exact this
theorem lgl_set_tail (h : Lg8 l) (i : Nat) (v : Value) : (lgl l s).set (35 + i) v = [.int .i64 l.gen, .int .i64 l.base, .string l.text] ++ (tc l.first ++ (tc l.table ++ ([.slice s.1 s.2.1 s.2.2, .bool l.whole, .int .i64 l.good] : List Value).set i v)) := by
 unfold lgl
 rw [List.set_append_right _ _ (by simp; omega), List.set_append_right _ _ (by simp [tc_len, h.1]; omega), List.set_append_right _ _ (by simp [tc_len, h.1, h.2]; omega)]
 congr 4
 simp [tc_len, h.1, h.2]
 omega
theorem lgc_set_revs (h : Lg8 l) (A : Option Addr) (n c : Nat) : (lgc l s).setIfInBounds 35 (.slice A n c) = lgc l (A, n, c) := by
 simp only [lgc, List.setIfInBounds_toArray]
 rw [show (35 : Nat) = 35 + 0 from rfl, lgl_set_tail h]
 rfl
theorem lgc_set_table (h : Lg8 l) (i : Nat) (hi : i < 8) (a b : Int) : ((lgc l s).setIfInBounds (19 + i * 2) (.int .i64 a)).setIfInBounds (19 + i * 2 + 1) (.int .i64 b) = lgc { l with table := l.table.set i (a, b) } s := by
 simp only [lgc, List.setIfInBounds_toArray]
 unfold lgl
 rw [List.set_append_right _ _ (by simp; omega), List.set_append_right _ _ (by simp; omega), List.set_append_right _ _ (by simp [tc_len, h.1]; omega), List.set_append_right _ _ (by simp [tc_len, h.1]; omega), List.set_append_left _ _ (by simp [tc_len, h.1, h.2]; omega), List.set_append_left _ _ (by simp [tc_len, h.1, h.2]; omega)]
 simp only [List.length_cons, List.length_nil, tc_len, h.1]
 rw [show 19 + i * 2 - (0 + 1 + 1 + 1) - 8 * 2 = i * 2 by omega, show 19 + i * 2 + 1 - (0 + 1 + 1 + 1) - 8 * 2 = i * 2 + 1 by omega, tc_set]
theorem lgc_one (v : Value) (hv : v ∈ lgl l s) : v.oneCell' = true := by
 have ht : ∀ (t : Tb), ∀ u ∈ tc t, u.oneCell' = true := by
  intro t u hu
  unfold tc at hu
  obtain ⟨p, _, hp⟩ := List.mem_flatMap.1 hu
  simp only [List.mem_cons, List.not_mem_nil, or_false] at hp
  rcases hp with rfl | rfl <;> rfl
 unfold lgl at hv
 simp only [List.mem_append, List.mem_cons, List.not_mem_nil, or_false] at hv
 rcases hv with (rfl | rfl | rfl) | h | h | (rfl | rfl | rfl)
 · rfl
 · rfl
 · rfl
 · exact ht _ v h
 · exact ht _ v h
 · rfl
 · rfl
 · rfl
theorem lgc_ones : (lgc l s).all (·.oneCell') = true := Array.all_eq_true_iff_forall_mem.2 fun v hv => lgc_one v (by simpa [lgc] using hv)
end
theorem tabS_info : (Try.prog.info? 79).map (·.size) = some 16 := by kernel_rfl
def tb0 : Tb := List.replicate 8 (0, 0)
def lg0 : Lg := ⟨0, 0, ⟨#[]⟩, tb0, tb0, [], false, 0⟩
theorem lg0_8 : Lg8 lg0 := ⟨rfl, rfl⟩
theorem log_info : (Try.prog.info? 131).map (·.size) = some 38 := by kernel_rfl
theorem cput_any (n : Nat) (m : Int) (hm : m = (n : Int)) (z : ByteArray) (hz : (⟨(vi n).toArray⟩ : ByteArray) = z) (h : (n : Int) ≤ 2147483647) (w : World) :
 Calls Try.prog 77 #[.int .i64 m] w fun e w' => e = .returned (.string z) ∧ Below w.heap.size w w' := by
 subst hm
 have hc := put_good n w h
 rw [hz] at hc
 have Hc := Lib.hid hc
 clear hc hz
 go_enter Try.func77, Try.ntmps77
 go_wp2_with fail
 refine Hc.out.mono ?_
 rintro e w1 ⟨rfl, hb⟩
 go_wp2_with fail
 go_ret
 exact ⟨rfl, hb⟩
theorem vi_size (n : Nat) (z : ByteArray) (hz : (⟨(vi n).toArray⟩ : ByteArray) = z) (h : n ≤ 2147483647) : z.size ≤ 5 ∧ z.data.toList = vi n := by
 subst hz
 have := vi_len 5 n (by omega) (by omega)
 exact ⟨by rw [bs_size]; exact this, by simp⟩
theorem cwrite_good (l : List Pt) (A : Option Addr) (n c B : Nat) (w : World) (S : ByteArray) (h : RdP w B A n c l) (hB : B ≤ w.heap.size) (hk : chk l = 0) (hS : S.data.toList = wrL l) :
 Calls Try.prog 33 #[.slice A n c] w fun e w' => e = .returned (.tuple #[.string S, .int .i64 0]) ∧ Below w.heap.size w w' := by
 have H := Lib.hid h
 have Hk := Lib.hid hk
 have HF := Lib.hid (chk_parts hk).2.2.2.2.2
 have hn16 : (n : Int) ≤ 1600 := by have := (chk_parts hk).1; have := h.1; omega
 have HS := Lib.hid hS
 obtain ⟨z0, hz0⟩ : ∃ z, (⟨(vi n).toArray⟩ : ByteArray) = z := ⟨_, rfl⟩
 have hv0 := vi_size n z0 hz0 (by omega)
 have Hz0 := Lib.hid hz0
 have hz5 := hv0.1
 have Hv0 := Lib.hid hv0.2
 clear h hk hS hz0 hv0
 go_enter Try.func33, Try.ntmps33
 go_wp2_with fail
 refine (chk_any l A n c B _ H.out hB).mono ?_
 rintro e w1 ⟨rfl, hb1⟩
 rw [Hk.out]
 go_wp2_with fail
 refine (cput_any n _ rfl z0 Hz0.out (by omega) _).mono ?_
 rintro e w2 ⟨rfl, hb2⟩
 have hw2 := hb1.trans (hb2.mono hb1.size)
 clear hb1 hb2
 go_wp2_with fail
 go_loopw [5, 7, 18] (fun ov pv i wr => ∃ (k : Nat) (acc : ByteArray), k ≤ n ∧ i = .int .i64 k ∧ ov = .string acc ∧ Hid (acc.data.toList = vi n ++ (l.take k).flatMap wrP) ∧ (acc.size : Int) ≤ 5 + 505 * k ∧ Below w.heap.size w wr) (fun _ _ i _ => n - (intOf i).toNat)
 case atStart => exact ⟨0, z0, by omega, rfl, rfl, Lib.hid (by rw [Hv0.out]; simp), by omega, hw2⟩
 case round =>
  obtain ⟨k, acc, hk, rfl, rfl, hacc, hsz, hbw⟩ := hrel
  by_cases hlt : k < n
  · have hkl : k < l.length := by have := H.out.1; omega
    obtain ⟨g, o, rfl, hg, c0, c1, c2⟩ := (H.out.below (hbw.mono hB)).at_ k hlt
    have hbd := fit_bounds _ (HF.out l[k] (List.getElem_mem hkl))
    have hts : Hid ((l.take (k + 1)).flatMap wrP = (l.take k).flatMap wrP ++ wrP l[k]) := Lib.hid (by rw [List.take_succ_eq_append_getElem hkl, List.flatMap_append]; simp)
    obtain ⟨p, hp⟩ : ∃ p, p = l[k] := ⟨_, rfl⟩
    rw [← hp] at hbd hts c0 c1 c2
    clear hp
    obtain ⟨kd, m, t⟩ := p
    simp only at hbd c0 c1 c2
    have hk0 : (0 : Int) ≤ (k : Int) := by omega
    have hkn : (k : Int) < (n : Int) := by omega
    have hgl : g < wr.heap.size := by have := hbw.size; omega
    have hw1 := hbw.alloc hbw.size (.cells #[.int .i64 kd, .int .i64 m, .string t] 88)
    rcases hbd with ⟨hkd, h1, h2, rfl⟩ | ⟨rfl, rfl, h1, h2⟩
    · obtain ⟨q, rfl⟩ := Int.eq_ofNat_of_zero_le (show 0 ≤ m by omega)
      have hkd0 : kd ≠ 2 := by omega
      obtain ⟨y, hy⟩ : ∃ z, (⟨(vi (4 * q + kd.toNat)).toArray⟩ : ByteArray) = z := ⟨_, rfl⟩
      have hvy := vi_size _ y hy (by omega)
      have hy5 := hvy.1
      have hwp : wrP ((kd, (q : Int), emp) : Pt) = vi (4 * q + kd.toNat) := by unfold wrP; rw [if_neg hkd0, Int.toNat_natCast]
      have Hy := Lib.hid hy
      have Hvy := Lib.hid hvy.2
      have Hwp := Lib.hid hwp
      clear hy hvy hwp hkd0
      rcases hkd with rfl | rfl
      all_goals
       go_wp2_with fail
       refine (cput_any _ _ (by omega) y Hy.out (by omega) _).mono ?_
       rintro e w3 ⟨rfl, hb3⟩
       have hw3 := hw1.trans (hb3.mono hw1.size)
       clear hb3
       go_wp2_with fail
       go_roundw
       case rel => exact ⟨k + 1, acc ++ y, by omega, by go_num, rfl, Lib.hid (by rw [bs_append, hacc.out, Hvy.out, hts.out, Hwp.out, List.append_assoc]), by rw [ByteArray.size_append]; omega, hw3⟩
       case measure => simp [intOf]; omega
    · obtain ⟨y, hy⟩ : ∃ z, (⟨(vi (4 * t.size + 2)).toArray⟩ : ByteArray) = z := ⟨_, rfl⟩
      have hvy := vi_size _ y hy (by omega)
      have hy5 := hvy.1
      have hwp : wrP ((2, 0, t) : Pt) = vi (4 * t.size + 2) ++ t.data.toList := by unfold wrP; rw [if_pos rfl]
      have Hy := Lib.hid hy
      have Hvy := Lib.hid hvy.2
      have Hwp := Lib.hid hwp
      clear hy hvy hwp
      have hpb := Blk.new wr 88 #[.int .i64 2, .int .i64 0, .string t]
      have hp2 : (wr.alloc (.cells #[.int .i64 2, .int .i64 0, .string t] 88)).cell? ⟨wr.heap.size, 2, none⟩ = some (.string t) := hpb.cell 2
      have hpl : wr.heap.size < (wr.alloc (.cells #[.int .i64 2, .int .i64 0, .string t] 88)).heap.size := hpb.lt
      go_wp2_with fail
      generalize wr.alloc (.cells #[.int .i64 2, .int .i64 0, .string t] 88) = W1 at *
      have hput : ∀ w', (Below W1.heap.size W1 w' ∧ w'.cell? ⟨wr.heap.size, 2, none⟩ = some (.string t)) →
       Calls Try.prog 77 #[.int .i64 (4 * (t.size : Int) + 2)] w' fun e w'' => e = .returned (.string y) ∧ (Below W1.heap.size W1 w'' ∧ w''.cell? ⟨wr.heap.size, 2, none⟩ = some (.string t)) := by
       rintro w' ⟨q1, q2⟩
       refine (cput_any (4 * t.size + 2) _ (by omega) y Hy.out (by omega) w').mono ?_
       rintro e w'' ⟨rfl, hb⟩
       have := q1.size
       exact ⟨rfl, q1.trans (hb.mono (by omega)), (hb.cell (by show wr.heap.size < _; omega)).trans q2⟩
      have Hput := Lib.hid hput
      have m1 : IntKind.i64.wrap (4 * (t.size : Int)) = 4 * (t.size : Int) := IntWalk.i64_in _ (by omega)
      have m2 : IntKind.i64.wrap (4 * (t.size : Int) + 2) = 4 * (t.size : Int) + 2 := IntWalk.i64_in _ (by omega)
      have hyt : (y ++ t).size = y.size + t.size := ByteArray.size_append ..
      have hbig1 : ¬ 9223372036854775807 < y.size + t.size := by omega
      have hbig2 : ¬ 9223372036854775807 < acc.size + (y.size + t.size) := by omega
      clear hput hpb hpl
      go_region_held3 (fun w' => Below W1.heap.size W1 w' ∧ w'.cell? ⟨wr.heap.size, 2, none⟩ = some (.string t)) (first | assumption | exact ⟨Below.drew (Below.refl _ _), by assumption⟩)
       ((first | (go_at_call 77; refine (Hput.out _ (by assumption)).mono ?_; rintro e w9 ⟨rfl, hb9⟩)))
      all_goals
       have hS9 : Below W1.heap.size W1 w9 := And.left (by assumption)
       have hw9 := hw1.trans (hS9.mono hw1.size)
       go_wp2_with fail
       go_roundw
       case rel => exact ⟨k + 1, acc ++ (y ++ t), by omega, by go_num, rfl, Lib.hid (by rw [bs_append, bs_append, hacc.out, Hvy.out, hts.out, Hwp.out, List.append_assoc]), by rw [ByteArray.size_append, ByteArray.size_append]; omega, hw9⟩
       case measure => simp [intOf]; omega
  · have hfin : acc = S := bs_ext (by
     rw [hacc.out, HS.out, List.take_of_length_le (by have := H.out.1; omega)]
     unfold wrL
     rw [← H.out.1])
    subst hfin
    go_wp2_with fail
    go_ret2
    exact ⟨rfl, hbw⟩
end Go.Proofs.Ytokngfinnieccaa
