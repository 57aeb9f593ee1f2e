/- Deltas as bytes; plain lists. -/
import Derived.Test.YtbgaoehpljnolaaNumLaw
import Derived.Test.YtbgaoehpljnolaaDeltaLaw
namespace Go.Proofs.Ytbgaoehpljnolaa
set_option linter.unusedVariables false
set_option linter.unusedSimpArgs false
set_option maxRecDepth 100000

def wrP (p : Pt) : List UInt8 := if p.1 = 2 then vi (4 * p.2.2.size + 2) ++ p.2.2.data.toList else vi (4 * p.2.1.toNat + p.1.toNat)
def wrL (l : List Pt) : List UInt8 := vi l.length ++ l.flatMap wrP
def rN (s : List UInt8) : Nat × List UInt8 × Bool := if (gn s 0 0).2.2 = 0 then ((gn s 0 0).1, s.drop (gn s 0 0).2.1, false) else (0, s, true)
def rP (s : List UInt8) : Pt × List UInt8 × Bool :=
  if (rN s).1 % 4 = 2 then (if (rN s).2.1.length < (rN s).1 / 4 then ((2, 0, emp), (rN s).2.1, true) else ((2, 0, ⟨((rN s).2.1.take ((rN s).1 / 4)).toArray⟩), (rN s).2.1.drop ((rN s).1 / 4), (rN s).2.2))
  else ((((rN s).1 % 4 : Nat), ((rN s).1 / 4 : Nat), emp), (rN s).2.1, (rN s).2.2)
def rL : Nat → List UInt8 → Bool → List Pt → List Pt × List UInt8 × Bool
  | 0, s, bad, out => (out, s, bad)
  | n + 1, s, bad, out => if bad = true then (out, s, bad) else rL n (rP s).2.1 (rP s).2.2 (out ++ [(rP s).1])
def readR (s : List UInt8) : List Pt × List UInt8 × Bool := rL (rN s).1 (rN s).2.1 (rN s).2.2 []
def readE (s : List UInt8) : Int := if (readR s).2.2 = true ∨ (readR s).2.1 ≠ [] ∨ chk (readR s).1 ≠ 0 then 3 else 0
def readL (s : List UInt8) : List Pt := if readE s = 0 then (readR s).1 else []
theorem rN_vi (n : Nat) (h : n ≤ 2147483647) (r : List UInt8) : rN (vi n ++ r) = (n, r, false) := by
  have h1 := gn_vi 4 0 n 0 r (by omega) (by simp; omega) (by omega) (by simp; omega)
  simp only [Nat.zero_add, Nat.mul_zero, Nat.pow_zero, Nat.mul_one] at h1
  unfold rN
  rw [h1]
  simp
theorem rP_wr (p : Pt) (h : fitE p = 0) (r : List UInt8) : rP (wrP p ++ r) = (p, r, false) := by
  obtain ⟨h1, h2, h3⟩ := (fitE_zero p).1 h
  obtain ⟨k, n, t⟩ := p
  have hts : t.data.toList.length = t.size := rfl
  rcases h1 with ⟨h1, h4, h5⟩ | ⟨h1, h4, h5⟩
  · simp only at h1 h2 h3 h4 h5
    subst h5
    have hk : k ≠ 2 := by omega
    have e : wrP ((k, n, emp) : Pt) = vi (4 * n.toNat + k.toNat) := by unfold wrP; rw [if_neg hk]
    rw [e]
    unfold rP
    rw [rN_vi _ (by omega)]
    simp only
    rw [if_neg (by omega)]
    have e1 : (((4 * n.toNat + k.toNat) % 4 : Nat) : Int) = k := by omega
    have e2 : (((4 * n.toNat + k.toNat) / 4 : Nat) : Int) = n := by omega
    rw [e1, e2]
  · simp only at h1 h2 h3 h4 h5
    subst h1 h4
    have e : wrP ((2, 0, t) : Pt) = vi (4 * t.size + 2) ++ t.data.toList := by unfold wrP; rw [if_pos rfl]
    rw [e, List.append_assoc]
    unfold rP
    rw [rN_vi _ (by omega)]
    simp only
    have e1 : (4 * t.size + 2) / 4 = t.size := by omega
    rw [if_pos (by omega), e1, if_neg (by rw [List.length_append, hts]; omega)]
    have e2 : (t.data.toList ++ r).take t.size = t.data.toList := by rw [← hts, List.take_left']; rfl
    have e3 : (t.data.toList ++ r).drop t.size = r := by rw [← hts, List.drop_left']; rfl
    rw [e2, e3, ba_eta]
theorem rL_wr : ∀ (l : List Pt) (out : List Pt) (r : List UInt8), (∀ p ∈ l, fitE p = 0) → rL l.length (l.flatMap wrP ++ r) false out = (out ++ l, r, false)
  | [], out, r, _ => by simp [rL]
  | p :: l, out, r, h => by
    rw [List.flatMap_cons, List.append_assoc, List.length_cons]
    simp only [rL]
    rw [if_neg (by simp), rP_wr p (h p (by simp))]
    simp only
    rw [rL_wr l _ r fun q hq => h q (by simp [hq]), List.append_assoc]
    rfl
theorem readR_wr {l : List Pt} (h : chk l = 0) (r : List UInt8) : readR (wrL l ++ r) = (l, r, false) := by
  have hp := chk_parts h
  unfold readR wrL
  rw [List.append_assoc, rN_vi _ (by omega)]
  simp only
  rw [rL_wr l [] r hp.2.2.2.2.2]
  simp
theorem read_back {l : List Pt} (h : chk l = 0) : readE (wrL l) = 0 ∧ readL (wrL l) = l := by
  have h1 := readR_wr h []
  rw [List.append_nil] at h1
  have e : readE (wrL l) = 0 := by
    unfold readE
    rw [h1, if_neg (by simp [h])]
  refine ⟨e, ?_⟩
  unfold readL
  rw [if_pos e, h1]
theorem read_more {l : List Pt} (h : chk l = 0) (x : UInt8) : readE (wrL l ++ [x]) = 3 := by
  unfold readE
  rw [readR_wr h [x], if_pos (by simp)]
theorem rN_inv {s s1 : List UInt8} {n : Nat} (h : rN s = (n, s1, false)) : vi n ++ s1 = s ∧ n ≤ 2147483647 := by
  unfold rN at h
  split at h
  · rename_i h0
    simp only [Prod.mk.injEq, and_true] at h
    obtain ⟨h1, h2⟩ := h
    obtain ⟨x, q1, q2, q3, q4, q5, q6⟩ := gn_inv s 0 0 (gn s 0 0).1 (gn s 0 0).2.1 (Prod.ext rfl (Prod.ext rfl h0))
    simp only [Nat.zero_add, Nat.mul_zero, Nat.pow_zero, Nat.mul_one, Nat.sub_zero] at q1 q2
    rw [← h1, ← h2, q1, q2]
    exact ⟨List.take_append_drop _ _, by omega⟩
  · simp at h
theorem rP_inv {s s1 : List UInt8} {p : Pt} (h : rP s = (p, s1, false)) : wrP p ++ s1 = s := by
  rcases hr : rN s with ⟨n, s2, b⟩
  unfold rP at h
  rw [hr] at h
  simp only at h
  split at h
  · rename_i h2
    split at h
    · simp at h
    · rename_i h3
      simp only [Prod.mk.injEq] at h
      obtain ⟨h4, h5, h6⟩ := h
      subst h6
      obtain ⟨q1, q2⟩ := rN_inv hr
      rw [← h4, ← h5]
      unfold wrP
      rw [if_pos rfl]
      simp only
      have hsz : (⟨(s2.take (n / 4)).toArray⟩ : ByteArray).size = n / 4 := by
        show (s2.take (n / 4)).toArray.size = n / 4
        rw [List.size_toArray, List.length_take]; omega
      rw [hsz, show 4 * (n / 4) + 2 = n by omega, List.append_assoc]
      have : (s2.take (n / 4)).toArray.toList ++ s2.drop (n / 4) = s2 := by simp
      rw [this]; exact q1
  · rename_i h2
    simp only [Prod.mk.injEq] at h
    obtain ⟨h4, h5, h6⟩ := h
    subst h6
    obtain ⟨q1, q2⟩ := rN_inv hr
    rw [← h4, ← h5]
    unfold wrP
    simp only
    rw [if_neg (by omega), Int.toNat_natCast, Int.toNat_natCast, show 4 * (n / 4) + n % 4 = n by omega]
    exact q1
theorem rL_inv : ∀ (n : Nat) (s : List UInt8) (out out' : List Pt) (s' : List UInt8), rL n s false out = (out', s', false) → ∃ l, out' = out ++ l ∧ l.length = n ∧ l.flatMap wrP ++ s' = s
  | 0, s, out, out', s', h => by
    simp only [rL, Prod.mk.injEq, and_true] at h
    exact ⟨[], by simp [h.1], rfl, by simp [h.2]⟩
  | n + 1, s, out, out', s', h => by
    simp only [rL] at h
    rw [if_neg (by simp)] at h
    rcases hr : rP s with ⟨p, s1, b⟩
    rw [hr] at h
    simp only at h
    cases b with
    | true =>
      exfalso
      cases n <;> simp [rL] at h
    | false =>
      obtain ⟨l, h1, h2, h3⟩ := rL_inv n s1 _ _ _ h
      refine ⟨p :: l, by rw [h1]; simp, by simp [h2], ?_⟩
      rw [List.flatMap_cons, List.append_assoc, h3]
      exact rP_inv hr
theorem read_one {s : List UInt8} (h : readE s = 0) : chk (readL s) = 0 ∧ wrL (readL s) = s := by
  have e : readL s = (readR s).1 := by unfold readL; rw [if_pos h]
  rw [e]
  unfold readE at h
  split at h
  · omega
  · rename_i h0
    have h1 : (readR s).2.2 = false := by
      rcases hb : (readR s).2.2 with _ | _
      · rfl
      · exact absurd (.inl hb) h0
    have h2 : (readR s).2.1 = [] := Decidable.byContradiction fun h => h0 (.inr (.inl h))
    have h3 : chk (readR s).1 = 0 := Decidable.byContradiction fun h => h0 (.inr (.inr h))
    refine ⟨h3, ?_⟩
    rcases hn : rN s with ⟨n, s1, b⟩
    have hR : readR s = rL n s1 b [] := by unfold readR; rw [hn]
    cases b with
    | true =>
      exfalso
      rw [hR] at h1
      cases n <;> simp [rL] at h1
    | false =>
      obtain ⟨q1, q2⟩ := rN_inv hn
      have hx : rL n s1 false [] = ((readR s).1, [], false) := by rw [← hR, ← h1, ← h2]
      obtain ⟨l, r1, r2, r3⟩ := rL_inv n s1 [] _ _ hx
      rw [List.nil_append] at r1
      rw [List.append_nil] at r3
      unfold wrL
      rw [r1, r2, r3]; exact q1
theorem read_cases (s : List UInt8) : readE s = 0 ∨ readE s = 3 := by
  unfold readE
  split
  · exact .inr rfl
  · exact .inl rfl
theorem read_cut {l : List Pt} (h : chk l = 0) {k : Nat} (hk : k < (wrL l).length) : readE ((wrL l).take k) = 3 := by
  rcases read_cases ((wrL l).take k) with h0 | h0
  · exfalso
    obtain ⟨h1, h2⟩ := read_one h0
    have h3 := readR_wr h1 ((wrL l).drop k)
    rw [h2, List.take_append_drop] at h3
    have h4 := readR_wr h []
    rw [List.append_nil, h3] at h4
    simp only [Prod.mk.injEq] at h4
    have := congrArg List.length h4.2.1
    rw [List.length_drop] at this
    simp at this
    omega
  · exact h0
theorem wr_inj {a b : List Pt} (ha : chk a = 0) (hb : chk b = 0) (h : wrL a = wrL b) : a = b := by
  have h1 := (read_back ha).2
  have h2 := (read_back hb).2
  rw [h] at h1
  rw [← h1, h2]
theorem wrP_len (p : Pt) (h : fitE p = 0) : (wrP p).length ≤ 505 := by
  obtain ⟨h1, h2, h3⟩ := (fitE_zero p).1 h
  have ht : p.2.2.data.toList.length = p.2.2.size := rfl
  unfold wrP
  split
  · rw [List.length_append, ht]
    have := vi_len 5 (4 * p.2.2.size + 2) (by omega) (by omega)
    omega
  · have : (4 * p.2.1.toNat + p.1.toNat) < 128 ^ 5 := by
      rcases h1 with ⟨h1, h4, h5⟩ | ⟨h1, h4, h5⟩ <;> omega
    have := vi_len 5 _ this (by omega)
    omega
theorem wr_len : ∀ (l : List Pt), (∀ p ∈ l, fitE p = 0) → (l.flatMap wrP).length ≤ 505 * l.length
  | [], _ => Nat.le_refl _
  | p :: l, h => by
    have h1 := wrP_len p (h p (by simp))
    have h2 := wr_len l fun q hq => h q (by simp [hq])
    rw [List.flatMap_cons, List.length_append, List.length_cons]; omega
end Go.Proofs.Ytbgaoehpljnolaa
