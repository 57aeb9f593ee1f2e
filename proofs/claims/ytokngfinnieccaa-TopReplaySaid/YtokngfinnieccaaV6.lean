/- Contracts of code.Read and its reader. hot.take: a number off a text. -/
import Derived.Test.YtokngfinnieccaaV3
import Derived.Test.YtokngfinnieccaaV5
namespace Go.Proofs.Ytokngfinnieccaa
open Go.ChangeShapes Go.WideShapes Go.RowKit
set_option linter.unusedVariables false
set_option linter.unusedSimpArgs false
set_option maxRecDepth 100000
set_option maxHeartbeats 4000000
def Rr (w : World) (g : Nat) (s : ByteArray) (b : Bool) : Prop := Blk w g 129 #[.string s, .bool b]
theorem gn_small (s : List UInt8) : (gn s 0 0).1 ≤ 2147483647 ∧ (gn s 0 0).2.1 ≤ s.length ∧ ((gn s 0 0).2.2 ≠ 0 → (gn s 0 0).1 = 0) := by
 by_cases h : (gn s 0 0).2.2 = 0
 · obtain ⟨x, q1, q2, q3, q4, q5, q6⟩ := gn_inv s 0 0 (gn s 0 0).1 (gn s 0 0).2.1 (Prod.ext rfl (Prod.ext rfl h))
   exact ⟨q6, by omega, fun h' => absurd h h'⟩
 · have hz : ∀ (s : List UInt8) (i n : Nat), (gn s i n).2.2 ≠ 0 → (gn s i n).1 = 0 ∧ (gn s i n).2.1 = 0 := by
    intro s
    induction s with
    | nil => intro i n _; exact ⟨rfl, rfl⟩
    | cons c r ih =>
      intro i n h
      rw [gn_cons c r i n _ rfl] at h ⊢
      split
      · split
        · exact ⟨rfl, rfl⟩
        · rename_i h1 h2; rw [if_pos h1, if_neg h2] at h; exact absurd rfl h
      · split
        · exact ⟨rfl, rfl⟩
        · rename_i h1 h2; rw [if_neg h1, if_neg h2] at h; exact ih _ _ h
   have := hz s 0 0 h
   exact ⟨by omega, by omega, fun _ => this.1⟩
theorem rnum_any (g : Nat) (s : ByteArray) (b : Bool) (w : World) (h : Rr w g s b) (hs : s.size ≤ 140737488351232) :
 Calls Try.prog 78 #[.pointer (some ⟨g, 0, none⟩)] w fun e w' => e = .returned (.int .i64 ((rN s.data.toList).1 : Nat)) ∧ ∃ s', Rr w' g s' (b || (rN s.data.toList).2.2) ∧ s'.data.toList = (rN s.data.toList).2.1 ∧ s'.size ≤ s.size ∧ Only w w' (fun k => k = g) := by
 have c0 := h.cell 0
 have c1 := h.cell 1
 have f0 := h.frozen 0
 have f1 := h.frozen 1
 have l0 := h.lt
 have Hh := Lib.hid h
 have hsm := gn_small s.data.toList
 rw [bs_len] at hsm
 have hget := get_any s w (by omega)
 by_cases he : (gn s.data.toList 0 0).2.2 = 0
 · have hr : rN s.data.toList = ((gn s.data.toList 0 0).1, s.data.toList.drop (gn s.data.toList 0 0).2.1, false) := by unfold rN; rw [if_pos he]
   rw [hr]
   rcases hg : gn s.data.toList 0 0 with ⟨a, j, e⟩
   rw [hg] at hsm he hget
   simp only at hsm he
   subst he
   simp only
   obtain ⟨q1, q2, _⟩ := hsm
   have Hget := Lib.hid (get_val s w (by omega) hg)
   have hj : (j : Int) ≤ (s.size : Int) := by omega
   have hj0 : (0 : Int) ≤ (j : Int) := by omega
   have e2 : (s.extract j s.size).data.toList = s.data.toList.drop j := by rw [bs_extract, ← bs_len, List.take_length]
   have He2 := Lib.hid e2
   clear hr hg hget h e2
   go_enter Try.func78, Try.ntmps78
   go_wp2_with fail
   refine Hget.out.mono ?_
   rintro e w1 ⟨rfl, rfl⟩
   go_wp2_with fail
   go_ret
   refine ⟨rfl, s.extract j s.size, ?_, He2.out, ?_, Only.setSelf _ _ _ _⟩
   · rw [Bool.or_false]; exact Hh.out.set_ 0 _
   · rw [← bs_len, He2.out, List.length_drop, bs_len]; omega
 · have hr : rN s.data.toList = (0, s.data.toList, true) := by unfold rN; rw [if_neg he]
   rw [hr]
   rcases hg : gn s.data.toList 0 0 with ⟨a, j, e⟩
   rw [hg] at hsm he
   simp only at hsm he
   have Hget := Lib.hid (get_val s w (by omega) hg)
   have hne : (((e : Nat) : Int) != 0) = true := by simp; omega
   clear hr hg hget h he hsm
   go_enter Try.func78, Try.ntmps78
   go_wp2_with fail
   refine Hget.out.mono ?_
   rintro e w1 ⟨rfl, rfl⟩
   go_wp2_with fail
   go_ret
   refine ⟨rfl, s, ?_, rfl, Nat.le_refl _, Only.setSelf _ _ _ _⟩
   rw [Bool.or_true]; exact Hh.out.set_ 1 _
theorem rtxt_any (g : Nat) (s : ByteArray) (b : Bool) (n : Nat) (w : World) (h : Rr w g s b) (hs : s.size ≤ 140737488351232) (hn : (n : Int) ≤ 2147483647) :
 Calls Try.prog 79 #[.pointer (some ⟨g, 0, none⟩), .int .i64 n] w fun e w' => ∃ t s' b', e = .returned (.string t) ∧ Rr w' g s' b' ∧ s'.size ≤ s.size ∧ t.size ≤ 2147483647 ∧ Only w w' (fun k => k = g) ∧
  (if s.size < n then t = ⟨#[]⟩ ∧ s' = s ∧ b' = true else t = ⟨(s.data.toList.take n).toArray⟩ ∧ s'.data.toList = s.data.toList.drop n ∧ b' = b) := by
 have c0 := h.cell 0
 have c1 := h.cell 1
 have f0 := h.frozen 0
 have f1 := h.frozen 1
 have l0 := h.lt
 have Hh := Lib.hid h
 clear h
 by_cases hlt : s.size < n
 · have hi : (s.size : Int) < (n : Int) := by omega
   simp only [if_pos hlt]
   go_enter Try.func79, Try.ntmps79
   go_wp2_with fail
   go_ret
   exact ⟨_, s, true, rfl, Hh.out.set_ 1 _, Nat.le_refl _, by decide, Only.setSelf _ _ _ _, rfl, rfl, rfl⟩
 · have hi : (n : Int) ≤ (s.size : Int) := by omega
   have hd : decide (s.size < n) = false := by simpa using hlt
   have hn0 : (0 : Int) ≤ (n : Int) := by omega
   simp only [if_neg hlt]
   have e1 : (s.extract 0 n).data.toList = s.data.toList.take n := by rw [bs_extract]; simp
   have e2 : (s.extract n s.size).data.toList = s.data.toList.drop n := by rw [bs_extract, ← bs_len, List.take_length]
   have e3 : s.extract 0 n = ⟨(s.data.toList.take n).toArray⟩ := bs_ext (by rw [e1])
   have e4 : (s.extract n s.size).size ≤ s.size := by rw [← bs_len, e2, List.length_drop, bs_len]; omega
   have e5 : (s.extract 0 n).size ≤ 2147483647 := by rw [← bs_len, e1, List.length_take, bs_len]; omega
   have He := Lib.hid (⟨e2, e3, e4, e5⟩ : _ ∧ _ ∧ _ ∧ _)
   clear e1 e2 e3 e4 e5 hlt
   go_enter Try.func79, Try.ntmps79
   go_wp2_with fail
   go_ret
   exact ⟨_, _, b, rfl, Hh.out.set_ 0 _, He.out.2.2.1, He.out.2.2.2, Only.setSelf _ _ _ _, He.out.2.1, He.out.1, rfl⟩
theorem wpList_app_part_big {ops : Array Oper} {rest : List Oper} {o : Oper} {a : Act} {Q : Exit → Act → World → Prop} (w : World) (hgd : o.guard = none) (s x : Operand)
 (ho : o.op = .call { callee := .builtin .append, args := #[s, x], argTypes := #[25, 25] })
 (B : Nat) (v : Value) (l : List Pt) (hs : a.eval s = v) (hown : OwnP w B v l)
 (k n : Int) (t : ByteArray) (c G : Nat) (hG : w.heap.size = G) (hx : a.eval x = .slice (some ⟨G, 0, none⟩) 1 c)
 (hn : l.length ≤ 2147483647) (hB : B ≤ w.heap.size)
 (h : ∀ v' w', OwnP w' B v' (l ++ [(k, n, t)]) → Below B w w' → w.grownBy w' v.ownBlock → wpList Try.prog ops Q rest (a.put o.dst v') w') :
 wpList Try.prog ops Q (o :: rest) a (w.alloc (.cells #[.int .i64 k, .int .i64 n, .string t] 88)) := by
 subst hG
 obtain ⟨i0, hi, hz0, hz1, hz2⟩ := info_parts Try.info_part
 refine wpList_append_any _ hgd s x 25 ho B 88 i0 _ 3 32 Try.underlying25 hi hz0 hz1 hz2 rfl (by omega) v _ _ hs (hown.alloc _) (w.heap.size + 1) _ 1 c [.int .i64 k, .int .i64 n, .string t] hx ?_ (by simp [Value.oneCell']) (by simp only [maxLen]; omega) (by omega) (by simp; omega) ?_
 · refine ⟨by simp, fun _ => ⟨_, rfl, by simp, fun j u hj => ?_⟩⟩
   have e1 : (w.alloc (.cells #[.int .i64 k, .int .i64 n, .string t] 88)).heap[w.heap.size]? = some (.cells #[.int .i64 k, .int .i64 n, .string t] 88) := heap_alloc_new w _
   rw [add0, cell_of_row _ _ j _ _ _ e1]
   simpa using hj
 · intro v' w' h2 h3 h4
   have hg := grown_unalloc h3
   exact h v' w' (by unfold OwnP; rw [pc_append, List.length_append]; exact h2) (below_grown hg hB (own_ge hown)) hg
theorem own_mono {w : World} {base base' : Nat} {e : TypeId} {size n : Nat} {v : Value} {xs : List Value} (h : w.ownsRow base e size v n xs) (hb : base' ≤ base) : w.ownsRow base' e size v n xs := by
 obtain ⟨h1, h2⟩ := h
 refine ⟨h1, ?_⟩
 rcases h2 with h2 | ⟨g, cap, cur, rfl, hg, hr⟩
 · exact .inl h2
 · exact .inr ⟨g, cap, cur, rfl, by omega, hr⟩
theorem OwnP.only {w w' : World} {S : Nat → Prop} {B : Nat} {v : Value} {l : List Pt} (h : OwnP w B v l) (ho : Only w w' S) (hS : ∀ k, S k → k < B) : OwnP w' B v l := own_only h ho fun k hk hs => by have := hS k hs; have := own_ge h k hk; omega
theorem rL_stop {m : Nat} {s : List UInt8} {b : Bool} {l : List Pt} {R : List Pt × List UInt8 × Bool} (h : rL m s b l = R) (hm : m = 0 ∨ b = true) : R = (l, s, b) := by
 rcases hm with rfl | rfl
 · exact h.symm
 · cases m <;> exact h.symm
theorem cread_any (s0 : ByteArray) (w : World) (hs0 : s0.size ≤ 140737488351232) :
 Calls Try.prog 34 #[.string s0] w fun e w' => ∃ v, e = .returned (.tuple #[v, .int .i64 (readE s0.data.toList)]) ∧ OwnP w' w.heap.size v (readL s0.data.toList) ∧ Below w.heap.size w w' := by
 obtain ⟨E, hE⟩ : ∃ E, readE s0.data.toList = E := ⟨_, rfl⟩
 obtain ⟨L, hL⟩ : ∃ L, readL s0.data.toList = L := ⟨_, rfl⟩
 obtain ⟨R, hR⟩ : ∃ R, rL (rN s0.data.toList).1 (rN s0.data.toList).2.1 (rN s0.data.toList).2.2 [] = R := ⟨_, rfl⟩
 have Hfin : Hid ((R.2.2 = true ∨ R.2.1 ≠ [] ∨ chk R.1 ≠ 0 → E = 3 ∧ L = []) ∧ (R.2.2 = false → R.2.1 = [] → chk R.1 = 0 → E = 0 ∧ L = R.1)) := Lib.hid (by
  have hRR : readR s0.data.toList = R := hR
  unfold readL at hL
  have hE' := hE
  unfold readE at hE'
  rw [hRR] at hE' hL
  refine ⟨fun h => ?_, fun h1 h2 h3 => ?_⟩
  · rw [if_pos h] at hE'
    have e3 : E = 3 := hE'.symm
    exact ⟨e3, by rw [← hL, hE, e3, if_neg (by decide)]⟩
  · rw [if_neg (by rintro (h | h | h); rw [h1] at h; cases h; exact h h2; exact h h3)] at hE'
    have e0 : E = 0 := hE'.symm
    exact ⟨e0, by rw [← hL, hE, e0, if_pos rfl]⟩)
 rw [hE, hL]
 have hsm := (gn_small s0.data.toList).1
 have hbb := (Below.refl w.heap.size w).alloc (Nat.le_refl _) (.cells #[.string s0, .bool false] 129)
 have hr0 : Rr (w.alloc (.cells #[.string s0, .bool false] 129)) w.heap.size s0 false := Blk.new w _ _
 have Hr0 := Lib.hid hr0
 have HR := Lib.hid hR
 clear hE hL hR hr0
 go_enter Try.func34, Try.ntmps34
 go_wp2_with fail
 refine (rnum_any w.heap.size s0 false _ Hr0.out hs0).mono ?_
 rintro e w1 ⟨rfl, s1, hr1, hs1, hs1s, ho1⟩
 have hw1 : Below w.heap.size w w1 := hbb.trans (ho1.below (by simp) fun k hk => by omega)
 have hX : (rN s0.data.toList).1 ≤ 2147483647 := by unfold rN; split; exact hsm; exact Nat.zero_le _
 rw [Bool.false_or] at hr1
 rw [← hs1] at HR
 generalize (rN s0.data.toList).1 = X at *
 generalize (rN s0.data.toList).2.2 = b1 at *
 have Hr1 := Lib.hid hr1
 clear hr1 hs1 ho1 Hr0 hsm
 go_wp2_with fail
 go_loopw [5, 6, 7, 8] (fun ov nv xv pv wr => ∃ (m : Nat) (s : ByteArray) (b : Bool) (l : List Pt), nv = .int .i64 m ∧ Hid (Rr wr w.heap.size s b) ∧ Hid (OwnP wr (w.heap.size + 1) ov l) ∧ l.length + m ≤ 2147483647 ∧ s.size ≤ 140737488351232 ∧ Hid (rL m s.data.toList b l = R) ∧ Hid (∀ p ∈ l, p.2.2.size ≤ 2147483647) ∧ Below w.heap.size w wr) (fun _ nv _ _ _ => (intOf nv).toNat)
 case atStart => exact ⟨X, s1, b1, [], rfl, Hr1, Lib.hid (OwnP.nil _ _), by simp; omega, by omega, HR, Lib.hid (by simp), hw1⟩
 case round =>
  obtain ⟨m, s, b, l, rfl, hrr, hown, hlen, hss, hrl, htx, hbw⟩ := hrel
  have q0 := hrr.out.cell 0
  have q1 := hrr.out.cell 1
  have ql := hrr.out.lt
  have hm0 : (0 : Int) ≤ (m : Int) := by omega
  cases b with
  | true =>
    have hR := rL_stop hrl.out (Or.inr rfl)
    obtain ⟨rfl, rfl⟩ := Hfin.out.1 (Or.inl (by rw [hR]))
    clear hR
    by_cases hm : m = 0
    · subst hm
      go_wp2_with fail
      go_ret2
      exact ⟨_, rfl, OwnP.nil _ _, hbw⟩
    · have hmp : (0 : Int) < (m : Int) := by omega
      go_wp2_with fail
      go_ret2
      exact ⟨_, rfl, OwnP.nil _ _, hbw⟩
  | false =>
    by_cases hm : m = 0
    · subst hm
      have hR := rL_stop hrl.out (Or.inl rfl)
      by_cases hse : s = ⟨#[]⟩
      · subst hse
        obtain ⟨A, c, rfl, hrd⟩ := hown.out.rd (fun p hp => by have := htx.out p hp; omega)
        have Hrd := Lib.hid hrd
        have Hown := Lib.hid hown.out
        have HR2 := Lib.hid hR
        obtain ⟨n, hn⟩ : ∃ n, l.length = n := ⟨_, rfl⟩
        rw [hn] at Hrd Hown
        clear hR hrd
        go_wp2_with fail
        refine (chk_any l A n c _ _ Hrd.out (Nat.le_refl _)).mono ?_
        rintro e w2 ⟨rfl, hb2⟩
        have hw2 := hbw.trans (hb2.mono hbw.size)
        by_cases hk : chk l = 0
        · obtain ⟨rfl, rfl⟩ := Hfin.out.2 (by rw [HR2.out]) (by rw [HR2.out]) (by rw [HR2.out]; exact hk)
          rw [hk]
          go_wp2_with fail
          go_ret2
          refine ⟨_, rfl, ?_, hw2⟩
          rw [HR2.out]
          exact own_mono (Hown.out.below hb2) (by omega)
        · obtain ⟨rfl, rfl⟩ := Hfin.out.1 (by rw [HR2.out]; exact Or.inr (Or.inr hk))
          have hne : ((chk l) != 0) = true := by simpa using hk
          generalize chk l = K at *
          go_wp2_with fail
          go_ret2
          exact ⟨_, rfl, OwnP.nil _ _, hw2⟩
      · have hsn : s.toList.isEmpty = false := by rcases str_cases s with h | h; exact absurd h hse; exact h.1
        obtain ⟨rfl, rfl⟩ := Hfin.out.1 (by
         rw [hR]
         refine Or.inr (Or.inl fun h => hse ?_)
         exact bs_ext (by simpa using h))
        clear hR
        go_wp2_with fail
        go_ret2
        exact ⟨_, rfl, OwnP.nil _ _, hbw⟩
    · obtain ⟨m', rfl⟩ : ∃ m', m = m' + 1 := ⟨m - 1, by omega⟩
      have hmp : (0 : Int) < ((m' + 1 : Nat) : Int) := by omega
      have hrl2 : rL m' (rP s.data.toList).2.1 (rP s.data.toList).2.2 (l ++ [(rP s.data.toList).1]) = R := by
       have := hrl.out
       rw [rL, if_neg (by simp)] at this
       exact this
      have Hrl := Lib.hid hrl2
      have hrn : (rN s.data.toList).1 ≤ 2147483647 := by unfold rN; split; exact (gn_small _).1; exact Nat.zero_le _
      clear hrl hrl2
      go_wp2_with fail
      refine (rnum_any w.heap.size s false _ hrr.out hss).mono ?_
      rintro e w2 ⟨rfl, s2, hr2, hs2, hs2s, ho2⟩
      rw [Bool.false_or] at hr2
      have hown2 := hown.out.only ho2 (fun k hk => by omega)
      have hw2 := hbw.trans (ho2.below hbw.size fun k hk => by omega)
      obtain ⟨x, hx⟩ : ∃ x, (rN s.data.toList).1 = x := ⟨_, rfl⟩
      obtain ⟨b2, hb2⟩ : ∃ b, (rN s.data.toList).2.2 = b := ⟨_, rfl⟩
      rw [hx] at hrn ⊢
      rw [hb2] at hr2
      have HP : Hid (rP s.data.toList = if x % 4 = 2 then (if s2.size < x / 4 then (((2, 0, emp) : Pt), s2.data.toList, true) else (((2, 0, ⟨(s2.data.toList.take (x / 4)).toArray⟩) : Pt), s2.data.toList.drop (x / 4), b2)) else (((((x % 4 : Nat) : Int), ((x / 4 : Nat) : Int), emp) : Pt), s2.data.toList, b2)) := Lib.hid (by unfold rP; rw [hx, hb2, ← hs2, bs_len])
      have Hr2 := Lib.hid hr2
      have Ho2 := Lib.hid hown2
      clear hx hb2 hs2 hr2 hown2 ho2 hrr hown
      have hl2 := Hr2.out.lt
      obtain ⟨n9, hn9⟩ : ∃ n, l.length = n := ⟨_, rfl⟩
      obtain ⟨A, c, rfl⟩ := Ho2.out.form_ hn9
      have x0 : (0 : Int) ≤ (x : Int) := by omega
      have x1 : (x : Int) ≤ 2147483647 := by omega
      obtain ⟨q, hq⟩ : ∃ q, x / 4 = q := ⟨_, rfl⟩
      have z1 : (x : Int) / 4 = (q : Int) := by omega
      have q1 : (q : Int) ≤ 2147483647 := by omega
      have q0' : (0 : Int) ≤ (q : Int) := by omega
      rw [hq] at HP
      have hbl := (Blk.new w2 88 #[.int .i64 ((x : Int) % 4), .int .i64 0, .string ⟨#[]⟩])
      by_cases hx2 : x % 4 = 2
      · rw [if_pos hx2] at HP
        have z0 : (x : Int) % 4 = 2 := by omega
        rw [z0] at hbl
        have Hbl := Lib.hid hbl
        have HP' : Hid (rP s.data.toList = if s2.size < q then (((2, 0, emp) : Pt), s2.data.toList, true) else (((2, 0, ⟨(s2.data.toList.take q).toArray⟩) : Pt), s2.data.toList.drop q, b2)) := HP
        clear HP hbl hq hx2
        go_wp2_with fail
        refine (rtxt_any w.heap.size s2 b2 q _ (Hr2.out.alloc _) (by omega) q1).mono ?_
        rintro e w3 ⟨t, s3, b3, rfl, hr3, hs3s, ht, ho3, hif⟩
        have hP : rP s.data.toList = (((2, 0, t) : Pt), s3.data.toList, b3) := by
         rw [HP'.out]
         split at hif
         · obtain ⟨rfl, rfl, rfl⟩ := hif; rename_i h; rw [if_pos h]; rfl
         · obtain ⟨rfl, h2, rfl⟩ := hif; rename_i h; rw [if_neg h, h2]
        have HP3 := Lib.hid hP
        have hb3 := Hbl.out.only ho3 (by omega)
        have d0 := hb3.cell 0
        have d1 := hb3.cell 1
        have d2 := hb3.cell 2
        have dl := hb3.lt
        have f0 := hb3.frozen 0
        have f1 := hb3.frozen 1
        have f2 := hb3.frozen 2
        have hl3 : w2.heap.size + 1 ≤ w3.heap.size := by have := ho3.2.2.2.1; simpa using this
        have hown3 := OwnP.only (Ho2.out.alloc _) ho3 (fun k hk => by omega)
        have Hown4 : Hid (OwnP (w3.setCell ⟨w2.heap.size, 2, none⟩ (.string t)) (w.heap.size + 1) (.slice A n9 c) l) := Lib.hid (own_only hown3 (Only.setSelf _ _ _ _) (fun k hk e => by have := own_lt Ho2.out k hk; omega))
        have Hr3 : Hid (Rr (w3.setCell ⟨w2.heap.size, 2, none⟩ (.string t)) w.heap.size s3 b3) := Lib.hid (hr3.far (by show w.heap.size ≠ w2.heap.size; exact Nat.ne_of_lt hl2) _)
        have hw3 : Below w.heap.size w (w3.setCell ⟨w2.heap.size, 2, none⟩ (.string t)) := (hw2.alloc hw2.size _).trans ((ho3.below (by simp; omega) fun k hk => by omega).trans ((Only.setSelf _ _ _ _).below (by omega) fun k hk => by omega))
        have hl9 : l.length ≤ 2147483647 := by omega
        have hB9 : w.heap.size + 1 ≤ (w3.setCell ⟨w2.heap.size, 2, none⟩ (.string t)).heap.size := by simp [World.setCell]; omega
        have hG9 : (w3.setCell ⟨w2.heap.size, 2, none⟩ (.string t)).heap.size = w3.heap.size := by simp [World.setCell]
        have hn10 : (l ++ [((2, 0, t) : Pt)]).length = n9 + 1 := by simp [hn9]
        clear hif hP hr3 hown3 hb3 ho3
        go_wp2_with (first | (at_builtin; go_loud (refine wpList_app_part_big _ rfl (.tmp 41) (.tmp 43) rfl (w.heap.size + 1) _ l rfl Hown4.out 2 0 t 1 w3.heap.size hG9 rfl hl9 hB9 ?_; intro v4 w4 k1 k2 k3; obtain ⟨A4, c4, rfl⟩ := k1.form_ (n := n9 + 1) hn10)))
        go_wp2_with fail
        go_roundw
        case rel =>
         refine ⟨m', s3, b3, l ++ [((2, 0, t) : Pt)], by go_num, Lib.hid (Hr3.out.below k2 (by omega)), Lib.hid k1, by simp; omega, by omega, Lib.hid (by have := Hrl.out; rw [HP3.out] at this; exact this), Lib.hid ?_, hw3.trans (k2.mono (by omega))⟩
         intro p hp
         rw [List.mem_append, List.mem_singleton] at hp
         rcases hp with hp | rfl
         · exact htx.out p hp
         · exact ht
        case measure => simp [intOf]
      · obtain ⟨r, hr⟩ : ∃ r, x % 4 = r := ⟨_, rfl⟩
        have z0 : (x : Int) % 4 = (r : Int) := by omega
        have z2 : ((r : Int) == 2) = false := by simp; omega
        rw [if_neg hx2, hr] at HP
        rw [z0] at hbl
        have HP' : Hid (rP s.data.toList = (((r : Int), (q : Int), emp), s2.data.toList, b2)) := HP
        have d0 := hbl.cell 0
        have d1 := hbl.cell 1
        have d2 := hbl.cell 2
        have dl := hbl.lt
        have f0 := hbl.frozen 0
        have f1 := hbl.frozen 1
        have f2 := hbl.frozen 2
        have hr3 : r ≠ 2 := by omega
        clear HP hbl hq hx2 hr
        have Hown4 : Hid (OwnP (w2.alloc (.cells #[.int .i64 r, .int .i64 q, .string ⟨#[]⟩] 88)) (w.heap.size + 1) (.slice A n9 c) l) := Lib.hid (World.ownsRow.alloc Ho2.out _)
        have Hr3 : Hid (Rr (w2.alloc (.cells #[.int .i64 r, .int .i64 q, .string ⟨#[]⟩] 88)) w.heap.size s2 b2) := Lib.hid (Hr2.out.alloc _)
        have hw3 : Below w.heap.size w (w2.alloc (.cells #[.int .i64 r, .int .i64 q, .string ⟨#[]⟩] 88)) := hw2.alloc hw2.size _
        have hl9 : l.length ≤ 2147483647 := by omega
        have hG9 : (w2.alloc (.cells #[.int .i64 r, .int .i64 q, .string ⟨#[]⟩] 88)).heap.size = w2.heap.size + 1 := by simp
        have hB9 : w.heap.size + 1 ≤ (w2.alloc (.cells #[.int .i64 r, .int .i64 q, .string ⟨#[]⟩] 88)).heap.size := by rw [hG9]; omega
        have hn10 : (l ++ [(((r : Int), (q : Int), (⟨#[]⟩ : ByteArray)) : Pt)]).length = n9 + 1 := by simp [hn9]
        go_wp2_with (first | (at_builtin; go_loud (refine wpList_app_part_big _ rfl (.tmp 41) (.tmp 43) rfl (w.heap.size + 1) _ l rfl Hown4.out r q ⟨#[]⟩ 1 (w2.heap.size + 1) hG9 rfl hl9 hB9 ?_; intro v4 w4 k1 k2 k3; obtain ⟨A4, c4, rfl⟩ := k1.form_ (n := n9 + 1) hn10)))
        go_wp2_with fail
        go_roundw
        case rel =>
         refine ⟨m', s2, b2, l ++ [(((r : Int), (q : Int), (⟨#[]⟩ : ByteArray)) : Pt)], by go_num, Lib.hid (Hr3.out.below k2 (by omega)), Lib.hid k1, by simp; omega, by omega, Lib.hid (by have := Hrl.out; rw [HP'.out] at this; exact this), Lib.hid ?_, hw3.trans (k2.mono (by omega))⟩
         intro p hp
         rw [List.mem_append, List.mem_singleton] at hp
         rcases hp with hp | rfl
         · exact htx.out p hp
         · exact Nat.zero_le _
        case measure => simp [intOf]
theorem take_any (g q : Nat) (s : ByteArray) (b : Bool) (w : World) (h : Blk w g 9 #[.string s]) (hq : Blk w q 4 #[.bool b]) (hs : s.size ≤ 140737488351232) :
 Calls Try.prog 127 #[.pointer (some ⟨g, 0, none⟩), .pointer (some ⟨q, 0, none⟩)] w fun e w' => e = .returned (.int .i64 ((rN s.data.toList).1 : Nat)) ∧ ∃ s', Blk w' g 9 #[.string s'] ∧ Blk w' q 4 #[.bool (b && !(rN s.data.toList).2.2)] ∧ s'.data.toList = (rN s.data.toList).2.1 ∧ s'.size ≤ s.size ∧ Only w w' (fun k => k = g ∨ k = q) := by
 have c0 := h.cell 0
 have c1 := hq.cell 0
 have f0 := h.frozen 0
 have f1 := hq.frozen 0
 have l0 := h.lt
 have l1 := hq.lt
 have hne0 : q ≠ g := fun e => by subst e; exact Blk.ne_ h hq (by decide) rfl
 have Hh := Lib.hid h
 have Hq := Lib.hid hq
 have hsm := gn_small s.data.toList
 rw [bs_len] at hsm
 have hget := get_any s w (by omega)
 by_cases he : (gn s.data.toList 0 0).2.2 = 0
 · have hr : rN s.data.toList = ((gn s.data.toList 0 0).1, s.data.toList.drop (gn s.data.toList 0 0).2.1, false) := by unfold rN; rw [if_pos he]
   rw [hr]
   rcases hg : gn s.data.toList 0 0 with ⟨a, j, e⟩
   rw [hg] at hsm he hget
   simp only at hsm he
   subst he
   simp only
   obtain ⟨q1, q2, _⟩ := hsm
   have Hget := Lib.hid (get_val s w (by omega) hg)
   have hj : (j : Int) ≤ (s.size : Int) := by omega
   have hj0 : (0 : Int) ≤ (j : Int) := by omega
   have e2 : (s.extract j s.size).data.toList = s.data.toList.drop j := by rw [bs_extract, ← bs_len, List.take_length]
   have He2 := Lib.hid e2
   clear hr hg hget h hq e2 c1 f1
   go_enter Try.func127, Try.ntmps127
   go_wp2_with fail
   refine Hget.out.mono ?_
   rintro e w1 ⟨rfl, rfl⟩
   go_wp2_with fail
   go_ret
   refine ⟨rfl, s.extract j s.size, Hh.out.set_ 0 _, ?_, He2.out, ?_, Only.setCell _ _ _ (.inl rfl)⟩
   · rw [Bool.not_false, Bool.and_true]; exact Hq.out.far (p := ⟨g, 0, none⟩) hne0 _
   · rw [← bs_len, He2.out, List.length_drop, bs_len]; omega
 · have hr : rN s.data.toList = (0, s.data.toList, true) := by unfold rN; rw [if_neg he]
   rw [hr]
   rcases hg : gn s.data.toList 0 0 with ⟨a, j, e⟩
   rw [hg] at hsm he
   simp only at hsm he
   have Hget := Lib.hid (get_val s w (by omega) hg)
   have hne : (((e : Nat) : Int) != 0) = true := by simp; omega
   clear hr hg hget h hq he hsm
   go_enter Try.func127, Try.ntmps127
   go_wp2_with fail
   refine Hget.out.mono ?_
   rintro e w1 ⟨rfl, rfl⟩
   go_wp2_with fail
   go_ret
   refine ⟨rfl, s, Hh.out.far (p := ⟨q, 0, none⟩) (Ne.symm hne0) _, ?_, rfl, Nat.le_refl _, Only.setCell _ _ _ (.inr rfl)⟩
   rw [Bool.not_true, Bool.and_false]; exact Hq.out.set_ 0 _
end Go.Proofs.Ytokngfinnieccaa
