/- Contracts of code.Read and its reader. hot.take: a number off a text. Contract of hot.head. Contracts of part.Maker's methods: Cut, Put, flush, Keep, Done. Contracts of part.Maker's methods: Keep, Done. -/
import Derived.Test.YtokngfinnieccaaU3
import Derived.Test.YtokngfinnieccaaU5
import Derived.StillTailTactics
namespace Go.Proofs.Ytokngfinnieccaa
open Go.ChangeShapes Go.WideShapes Go.RowKit
set_option linter.unusedVariables false
set_option linter.unusedSimpArgs false
set_option maxRecDepth 100000
set_option maxHeartbeats 4000000
def Rr (w : World) (g : Nat) (s : ByteArray) (b : Bool) : Prop := Blk w g 129 #[.string s, .bool b]
theorem gn_small (s : List UInt8) : (gn s 0 0).1 ≤ 2147483647 ∧ (gn s 0 0).2.1 ≤ s.length ∧ ((gn s 0 0).2.2 ≠ 0 → (gn s 0 0).1 = 0) := by
 by_cases h : (gn s 0 0).2.2 = 0
 · obtain ⟨x, q1, q2, q3, q4, q5, q6⟩ := gn_inv s 0 0 (gn s 0 0).1 (gn s 0 0).2.1 (Prod.ext rfl (Prod.ext rfl h))
   exact ⟨q6, by omega, fun h' => absurd h h'⟩
 · have hz : ∀ (s : List UInt8) (i n : Nat), (gn s i n).2.2 ≠ 0 → (gn s i n).1 = 0 ∧ (gn s i n).2.1 = 0 := by
    intro s
    induction s with
    | nil => intro i n _; exact ⟨rfl, rfl⟩
    | cons c r ih =>
      intro i n h
      rw [gn_cons c r i n _ rfl] at h ⊢
      split
      · split
        · exact ⟨rfl, rfl⟩
        · rename_i h1 h2; rw [if_pos h1, if_neg h2] at h; exact absurd rfl h
      · split
        · exact ⟨rfl, rfl⟩
        · rename_i h1 h2; rw [if_neg h1, if_neg h2] at h; exact ih _ _ h
   have := hz s 0 0 h
   exact ⟨by omega, by omega, fun _ => this.1⟩
theorem rnum_any (g : Nat) (s : ByteArray) (b : Bool) (w : World) (h : Rr w g s b) (hs : s.size ≤ 140737488351232) :
 Calls Try.prog 78 #[.pointer (some ⟨g, 0, none⟩)] w fun e w' => e = .returned (.int .i64 ((rN s.data.toList).1 : Nat)) ∧ ∃ s', Rr w' g s' (b || (rN s.data.toList).2.2) ∧ s'.data.toList = (rN s.data.toList).2.1 ∧ s'.size ≤ s.size ∧ Only w w' (fun k => k = g) := by
 have c0 := h.cell 0
 have c1 := h.cell 1
 have f0 := h.frozen 0
 have f1 := h.frozen 1
 have l0 := h.lt
 have Hh := Lib.hid h
 have hsm := gn_small s.data.toList
 rw [bs_len] at hsm
 have hget := get_any s w (by omega)
 by_cases he : (gn s.data.toList 0 0).2.2 = 0
 · have hr : rN s.data.toList = ((gn s.data.toList 0 0).1, s.data.toList.drop (gn s.data.toList 0 0).2.1, false) := by unfold rN; rw [if_pos he]
   rw [hr]
   rcases hg : gn s.data.toList 0 0 with ⟨a, j, e⟩
   rw [hg] at hsm he hget
   simp only at hsm he
   subst he
   simp only
   obtain ⟨q1, q2, _⟩ := hsm
   have Hget := Lib.hid (get_val s w (by omega) hg)
   have hj : (j : Int) ≤ (s.size : Int) := by omega
   have hj0 : (0 : Int) ≤ (j : Int) := by omega
   have e2 : (s.extract j s.size).data.toList = s.data.toList.drop j := by rw [bs_extract, ← bs_len, List.take_length]
   have He2 := Lib.hid e2
   clear hr hg hget h e2
   go_enter Try.func78, Try.ntmps78
   go_wp2_with fail
   refine Hget.out.mono ?_
   rintro e w1 ⟨rfl, rfl⟩
   go_wp2_with fail
   go_ret
   refine ⟨rfl, s.extract j s.size, ?_, He2.out, ?_, Only.setSelf _ _ _ _⟩
   · rw [Bool.or_false]; exact Hh.out.set_ 0 _
   · rw [← bs_len, He2.out, List.length_drop, bs_len]; omega
 · have hr : rN s.data.toList = (0, s.data.toList, true) := by unfold rN; rw [if_neg he]
   rw [hr]
   rcases hg : gn s.data.toList 0 0 with ⟨a, j, e⟩
   rw [hg] at hsm he
   simp only at hsm he
   have Hget := Lib.hid (get_val s w (by omega) hg)
   have hne : (((e : Nat) : Int) != 0) = true := by simp; omega
   clear hr hg hget h he hsm
   go_enter Try.func78, Try.ntmps78
   go_wp2_with fail
   refine Hget.out.mono ?_
   rintro e w1 ⟨rfl, rfl⟩
   go_wp2_with fail
   go_ret
   refine ⟨rfl, s, ?_, rfl, Nat.le_refl _, Only.setSelf _ _ _ _⟩
   rw [Bool.or_true]; exact Hh.out.set_ 1 _
theorem rtxt_any (g : Nat) (s : ByteArray) (b : Bool) (n : Nat) (w : World) (h : Rr w g s b) (hs : s.size ≤ 140737488351232) (hn : (n : Int) ≤ 2147483647) :
 Calls Try.prog 79 #[.pointer (some ⟨g, 0, none⟩), .int .i64 n] w fun e w' => ∃ t s' b', e = .returned (.string t) ∧ Rr w' g s' b' ∧ s'.size ≤ s.size ∧ t.size ≤ 2147483647 ∧ Only w w' (fun k => k = g) ∧
  (if s.size < n then t = ⟨#[]⟩ ∧ s' = s ∧ b' = true else t = ⟨(s.data.toList.take n).toArray⟩ ∧ s'.data.toList = s.data.toList.drop n ∧ b' = b) := by
 have c0 := h.cell 0
 have c1 := h.cell 1
 have f0 := h.frozen 0
 have f1 := h.frozen 1
 have l0 := h.lt
 have Hh := Lib.hid h
 clear h
 by_cases hlt : s.size < n
 · have hi : (s.size : Int) < (n : Int) := by omega
   simp only [if_pos hlt]
   go_enter Try.func79, Try.ntmps79
   go_wp2_with fail
   go_ret
   exact ⟨_, s, true, rfl, Hh.out.set_ 1 _, Nat.le_refl _, by decide, Only.setSelf _ _ _ _, rfl, rfl, rfl⟩
 · have hi : (n : Int) ≤ (s.size : Int) := by omega
   have hd : decide (s.size < n) = false := by simpa using hlt
   have hn0 : (0 : Int) ≤ (n : Int) := by omega
   simp only [if_neg hlt]
   have e1 : (s.extract 0 n).data.toList = s.data.toList.take n := by rw [bs_extract]; simp
   have e2 : (s.extract n s.size).data.toList = s.data.toList.drop n := by rw [bs_extract, ← bs_len, List.take_length]
   have e3 : s.extract 0 n = ⟨(s.data.toList.take n).toArray⟩ := bs_ext (by rw [e1])
   have e4 : (s.extract n s.size).size ≤ s.size := by rw [← bs_len, e2, List.length_drop, bs_len]; omega
   have e5 : (s.extract 0 n).size ≤ 2147483647 := by rw [← bs_len, e1, List.length_take, bs_len]; omega
   have He := Lib.hid (⟨e2, e3, e4, e5⟩ : _ ∧ _ ∧ _ ∧ _)
   clear e1 e2 e3 e4 e5 hlt
   go_enter Try.func79, Try.ntmps79
   go_wp2_with fail
   go_ret
   exact ⟨_, _, b, rfl, Hh.out.set_ 0 _, He.out.2.2.1, He.out.2.2.2, Only.setSelf _ _ _ _, He.out.2.1, He.out.1, rfl⟩
theorem wpList_app_part_big {ops : Array Oper} {rest : List Oper} {o : Oper} {a : Act} {Q : Exit → Act → World → Prop} (w : World) (hgd : o.guard = none) (s x : Operand)
 (ho : o.op = .call { callee := .builtin .append, args := #[s, x], argTypes := #[25, 25] })
 (B : Nat) (v : Value) (l : List Pt) (hs : a.eval s = v) (hown : OwnP w B v l)
 (k n : Int) (t : ByteArray) (c G : Nat) (hG : w.heap.size = G) (hx : a.eval x = .slice (some ⟨G, 0, none⟩) 1 c)
 (hn : l.length ≤ 2147483647) (hB : B ≤ w.heap.size)
 (h : ∀ v' w', OwnP w' B v' (l ++ [(k, n, t)]) → Below B w w' → w.grownBy w' v.ownBlock → wpList Try.prog ops Q rest (a.put o.dst v') w') :
 wpList Try.prog ops Q (o :: rest) a (w.alloc (.cells #[.int .i64 k, .int .i64 n, .string t] 88)) := by
 subst hG
 obtain ⟨i0, hi, hz0, hz1, hz2⟩ := info_parts Try.info_part
 refine wpList_append_any _ hgd s x 25 ho B 88 i0 _ 3 32 Try.underlying25 hi hz0 hz1 hz2 rfl (by omega) v _ _ hs (hown.alloc _) (w.heap.size + 1) _ 1 c [.int .i64 k, .int .i64 n, .string t] hx ?_ (by simp [Value.oneCell']) (by simp only [maxLen]; omega) (by omega) (by simp; omega) ?_
 · refine ⟨by simp, fun _ => ⟨_, rfl, by simp, fun j u hj => ?_⟩⟩
   have e1 : (w.alloc (.cells #[.int .i64 k, .int .i64 n, .string t] 88)).heap[w.heap.size]? = some (.cells #[.int .i64 k, .int .i64 n, .string t] 88) := heap_alloc_new w _
   rw [add0, cell_of_row _ _ j _ _ _ e1]
   simpa using hj
 · intro v' w' h2 h3 h4
   have hg := grown_unalloc h3
   exact h v' w' (by unfold OwnP; rw [pc_append, List.length_append]; exact h2) (below_grown hg hB (own_ge hown)) hg
theorem own_mono {w : World} {base base' : Nat} {e : TypeId} {size n : Nat} {v : Value} {xs : List Value} (h : w.ownsRow base e size v n xs) (hb : base' ≤ base) : w.ownsRow base' e size v n xs := by
 obtain ⟨h1, h2⟩ := h
 refine ⟨h1, ?_⟩
 rcases h2 with h2 | ⟨g, cap, cur, rfl, hg, hr⟩
 · exact .inl h2
 · exact .inr ⟨g, cap, cur, rfl, by omega, hr⟩
theorem OwnP.only {w w' : World} {S : Nat → Prop} {B : Nat} {v : Value} {l : List Pt} (h : OwnP w B v l) (ho : Only w w' S) (hS : ∀ k, S k → k < B) : OwnP w' B v l := own_only h ho fun k hk hs => by have := hS k hs; have := own_ge h k hk; omega
theorem rL_stop {m : Nat} {s : List UInt8} {b : Bool} {l : List Pt} {R : List Pt × List UInt8 × Bool} (h : rL m s b l = R) (hm : m = 0 ∨ b = true) : R = (l, s, b) := by
 rcases hm with rfl | rfl
 · exact h.symm
 · cases m <;> exact h.symm
theorem cread_any (s0 : ByteArray) (w : World) (hs0 : s0.size ≤ 140737488351232) :
 Calls Try.prog 34 #[.string s0] w fun e w' => ∃ v, e = .returned (.tuple #[v, .int .i64 (readE s0.data.toList)]) ∧ OwnP w' w.heap.size v (readL s0.data.toList) ∧ Below w.heap.size w w' := by
 obtain ⟨E, hE⟩ : ∃ E, readE s0.data.toList = E := ⟨_, rfl⟩
 obtain ⟨L, hL⟩ : ∃ L, readL s0.data.toList = L := ⟨_, rfl⟩
 obtain ⟨R, hR⟩ : ∃ R, rL (rN s0.data.toList).1 (rN s0.data.toList).2.1 (rN s0.data.toList).2.2 [] = R := ⟨_, rfl⟩
 have Hfin : Hid ((R.2.2 = true ∨ R.2.1 ≠ [] ∨ chk R.1 ≠ 0 → E = 3 ∧ L = []) ∧ (R.2.2 = false → R.2.1 = [] → chk R.1 = 0 → E = 0 ∧ L = R.1)) := Lib.hid (by
  have hRR : readR s0.data.toList = R := hR
  unfold readL at hL
  have hE' := hE
  unfold readE at hE'
  rw [hRR] at hE' hL
  refine ⟨fun h => ?_, fun h1 h2 h3 => ?_⟩
  · rw [if_pos h] at hE'
    have e3 : E = 3 := hE'.symm
    exact ⟨e3, by rw [← hL, hE, e3, if_neg (by decide)]⟩
  · rw [if_neg (by rintro (h | h | h); rw [h1] at h; cases h; exact h h2; exact h h3)] at hE'
    have e0 : E = 0 := hE'.symm
    exact ⟨e0, by rw [← hL, hE, e0, if_pos rfl]⟩)
 rw [hE, hL]
 have hsm := (gn_small s0.data.toList).1
 have hbb := (Below.refl w.heap.size w).alloc (Nat.le_refl _) (.cells #[.string s0, .bool false] 129)
 have hr0 : Rr (w.alloc (.cells #[.string s0, .bool false] 129)) w.heap.size s0 false := Blk.new w _ _
 have Hr0 := Lib.hid hr0
 have HR := Lib.hid hR
 clear hE hL hR hr0
 go_enter Try.func34, Try.ntmps34
 go_wp2_with fail
 refine (rnum_any w.heap.size s0 false _ Hr0.out hs0).mono ?_
 rintro e w1 ⟨rfl, s1, hr1, hs1, hs1s, ho1⟩
 have hw1 : Below w.heap.size w w1 := hbb.trans (ho1.below (by simp) fun k hk => by omega)
 have hX : (rN s0.data.toList).1 ≤ 2147483647 := by unfold rN; split; exact hsm; exact Nat.zero_le _
 rw [Bool.false_or] at hr1
 rw [← hs1] at HR
 generalize (rN s0.data.toList).1 = X at *
 generalize (rN s0.data.toList).2.2 = b1 at *
 have Hr1 := Lib.hid hr1
 clear hr1 hs1 ho1 Hr0 hsm
 go_wp2_with fail
 go_loopw [5, 6, 7, 8] (fun ov nv xv pv wr => ∃ (m : Nat) (s : ByteArray) (b : Bool) (l : List Pt), nv = .int .i64 m ∧ Hid (Rr wr w.heap.size s b) ∧ Hid (OwnP wr (w.heap.size + 1) ov l) ∧ l.length + m ≤ 2147483647 ∧ s.size ≤ 140737488351232 ∧ Hid (rL m s.data.toList b l = R) ∧ Hid (∀ p ∈ l, p.2.2.size ≤ 2147483647) ∧ Below w.heap.size w wr) (fun _ nv _ _ _ => (intOf nv).toNat)
 case atStart => exact ⟨X, s1, b1, [], rfl, Hr1, Lib.hid (OwnP.nil _ _), by simp; omega, by omega, HR, Lib.hid (by simp), hw1⟩
 case round =>
  obtain ⟨m, s, b, l, rfl, hrr, hown, hlen, hss, hrl, htx, hbw⟩ := hrel
  have q0 := hrr.out.cell 0
  have q1 := hrr.out.cell 1
  have ql := hrr.out.lt
  have hm0 : (0 : Int) ≤ (m : Int) := by omega
  cases b with
  | true =>
    have hR := rL_stop hrl.out (Or.inr rfl)
    obtain ⟨rfl, rfl⟩ := Hfin.out.1 (Or.inl (by rw [hR]))
    clear hR
    by_cases hm : m = 0
    · subst hm
      go_wp2_with fail
      go_ret2
      exact ⟨_, rfl, OwnP.nil _ _, hbw⟩
    · have hmp : (0 : Int) < (m : Int) := by omega
      go_wp2_with fail
      go_ret2
      exact ⟨_, rfl, OwnP.nil _ _, hbw⟩
  | false =>
    by_cases hm : m = 0
    · subst hm
      have hR := rL_stop hrl.out (Or.inl rfl)
      by_cases hse : s = ⟨#[]⟩
      · subst hse
        obtain ⟨A, c, rfl, hrd⟩ := hown.out.rd (fun p hp => by have := htx.out p hp; omega)
        have Hrd := Lib.hid hrd
        have Hown := Lib.hid hown.out
        have HR2 := Lib.hid hR
        obtain ⟨n, hn⟩ : ∃ n, l.length = n := ⟨_, rfl⟩
        rw [hn] at Hrd Hown
        clear hR hrd
        go_wp2_with fail
        refine (chk_any l A n c _ _ Hrd.out (Nat.le_refl _)).mono ?_
        rintro e w2 ⟨rfl, hb2⟩
        have hw2 := hbw.trans (hb2.mono hbw.size)
        by_cases hk : chk l = 0
        · obtain ⟨rfl, rfl⟩ := Hfin.out.2 (by rw [HR2.out]) (by rw [HR2.out]) (by rw [HR2.out]; exact hk)
          rw [hk]
          go_wp2_with fail
          go_ret2
          refine ⟨_, rfl, ?_, hw2⟩
          rw [HR2.out]
          exact own_mono (Hown.out.below hb2) (by omega)
        · obtain ⟨rfl, rfl⟩ := Hfin.out.1 (by rw [HR2.out]; exact Or.inr (Or.inr hk))
          have hne : ((chk l) != 0) = true := by simpa using hk
          generalize chk l = K at *
          go_wp2_with fail
          go_ret2
          exact ⟨_, rfl, OwnP.nil _ _, hw2⟩
      · have hsn : s.toList.isEmpty = false := by rcases str_cases s with h | h; exact absurd h hse; exact h.1
        obtain ⟨rfl, rfl⟩ := Hfin.out.1 (by
         rw [hR]
         refine Or.inr (Or.inl fun h => hse ?_)
         exact bs_ext (by simpa using h))
        clear hR
        go_wp2_with fail
        go_ret2
        exact ⟨_, rfl, OwnP.nil _ _, hbw⟩
    · obtain ⟨m', rfl⟩ : ∃ m', m = m' + 1 := ⟨m - 1, by omega⟩
      have hmp : (0 : Int) < ((m' + 1 : Nat) : Int) := by omega
      have hrl2 : rL m' (rP s.data.toList).2.1 (rP s.data.toList).2.2 (l ++ [(rP s.data.toList).1]) = R := by
       have := hrl.out
       rw [rL, if_neg (by simp)] at this
       exact this
      have Hrl := Lib.hid hrl2
      have hrn : (rN s.data.toList).1 ≤ 2147483647 := by unfold rN; split; exact (gn_small _).1; exact Nat.zero_le _
      clear hrl hrl2
      go_wp2_with fail
      refine (rnum_any w.heap.size s false _ hrr.out hss).mono ?_
      rintro e w2 ⟨rfl, s2, hr2, hs2, hs2s, ho2⟩
      rw [Bool.false_or] at hr2
      have hown2 := hown.out.only ho2 (fun k hk => by omega)
      have hw2 := hbw.trans (ho2.below hbw.size fun k hk => by omega)
      obtain ⟨x, hx⟩ : ∃ x, (rN s.data.toList).1 = x := ⟨_, rfl⟩
      obtain ⟨b2, hb2⟩ : ∃ b, (rN s.data.toList).2.2 = b := ⟨_, rfl⟩
      rw [hx] at hrn ⊢
      rw [hb2] at hr2
      have HP : Hid (rP s.data.toList = if x % 4 = 2 then (if s2.size < x / 4 then (((2, 0, emp) : Pt), s2.data.toList, true) else (((2, 0, ⟨(s2.data.toList.take (x / 4)).toArray⟩) : Pt), s2.data.toList.drop (x / 4), b2)) else (((((x % 4 : Nat) : Int), ((x / 4 : Nat) : Int), emp) : Pt), s2.data.toList, b2)) := Lib.hid (by unfold rP; rw [hx, hb2, ← hs2, bs_len])
      have Hr2 := Lib.hid hr2
      have Ho2 := Lib.hid hown2
      clear hx hb2 hs2 hr2 hown2 ho2 hrr hown
      have hl2 := Hr2.out.lt
      obtain ⟨n9, hn9⟩ : ∃ n, l.length = n := ⟨_, rfl⟩
      obtain ⟨A, c, rfl⟩ := Ho2.out.form_ hn9
      have x0 : (0 : Int) ≤ (x : Int) := by omega
      have x1 : (x : Int) ≤ 2147483647 := by omega
      obtain ⟨q, hq⟩ : ∃ q, x / 4 = q := ⟨_, rfl⟩
      have z1 : (x : Int) / 4 = (q : Int) := by omega
      have q1 : (q : Int) ≤ 2147483647 := by omega
      have q0' : (0 : Int) ≤ (q : Int) := by omega
      rw [hq] at HP
      have hbl := (Blk.new w2 88 #[.int .i64 ((x : Int) % 4), .int .i64 0, .string ⟨#[]⟩])
      by_cases hx2 : x % 4 = 2
      · rw [if_pos hx2] at HP
        have z0 : (x : Int) % 4 = 2 := by omega
        rw [z0] at hbl
        have Hbl := Lib.hid hbl
        have HP' : Hid (rP s.data.toList = if s2.size < q then (((2, 0, emp) : Pt), s2.data.toList, true) else (((2, 0, ⟨(s2.data.toList.take q).toArray⟩) : Pt), s2.data.toList.drop q, b2)) := HP
        clear HP hbl hq hx2
        go_wp2_with fail
        refine (rtxt_any w.heap.size s2 b2 q _ (Hr2.out.alloc _) (by omega) q1).mono ?_
        rintro e w3 ⟨t, s3, b3, rfl, hr3, hs3s, ht, ho3, hif⟩
        have hP : rP s.data.toList = (((2, 0, t) : Pt), s3.data.toList, b3) := by
         rw [HP'.out]
         split at hif
         · obtain ⟨rfl, rfl, rfl⟩ := hif; rename_i h; rw [if_pos h]; rfl
         · obtain ⟨rfl, h2, rfl⟩ := hif; rename_i h; rw [if_neg h, h2]
        have HP3 := Lib.hid hP
        have hb3 := Hbl.out.only ho3 (by omega)
        have d0 := hb3.cell 0
        have d1 := hb3.cell 1
        have d2 := hb3.cell 2
        have dl := hb3.lt
        have f0 := hb3.frozen 0
        have f1 := hb3.frozen 1
        have f2 := hb3.frozen 2
        have hl3 : w2.heap.size + 1 ≤ w3.heap.size := by have := ho3.2.2.2.1; simpa using this
        have hown3 := OwnP.only (Ho2.out.alloc _) ho3 (fun k hk => by omega)
        have Hown4 : Hid (OwnP (w3.setCell ⟨w2.heap.size, 2, none⟩ (.string t)) (w.heap.size + 1) (.slice A n9 c) l) := Lib.hid (own_only hown3 (Only.setSelf _ _ _ _) (fun k hk e => by have := own_lt Ho2.out k hk; omega))
        have Hr3 : Hid (Rr (w3.setCell ⟨w2.heap.size, 2, none⟩ (.string t)) w.heap.size s3 b3) := Lib.hid (hr3.far (by show w.heap.size ≠ w2.heap.size; exact Nat.ne_of_lt hl2) _)
        have hw3 : Below w.heap.size w (w3.setCell ⟨w2.heap.size, 2, none⟩ (.string t)) := (hw2.alloc hw2.size _).trans ((ho3.below (by simp; omega) fun k hk => by omega).trans ((Only.setSelf _ _ _ _).below (by omega) fun k hk => by omega))
        have hl9 : l.length ≤ 2147483647 := by omega
        have hB9 : w.heap.size + 1 ≤ (w3.setCell ⟨w2.heap.size, 2, none⟩ (.string t)).heap.size := by simp [World.setCell]; omega
        have hG9 : (w3.setCell ⟨w2.heap.size, 2, none⟩ (.string t)).heap.size = w3.heap.size := by simp [World.setCell]
        have hn10 : (l ++ [((2, 0, t) : Pt)]).length = n9 + 1 := by simp [hn9]
        clear hif hP hr3 hown3 hb3 ho3
        go_wp2_with (first | (at_builtin; go_loud (refine wpList_app_part_big _ rfl (.tmp 41) (.tmp 43) rfl (w.heap.size + 1) _ l rfl Hown4.out 2 0 t 1 w3.heap.size hG9 rfl hl9 hB9 ?_; intro v4 w4 k1 k2 k3; obtain ⟨A4, c4, rfl⟩ := k1.form_ (n := n9 + 1) hn10)))
        go_wp2_with fail
        go_roundw
        case rel =>
         refine ⟨m', s3, b3, l ++ [((2, 0, t) : Pt)], by go_num, Lib.hid (Hr3.out.below k2 (by omega)), Lib.hid k1, by simp; omega, by omega, Lib.hid (by have := Hrl.out; rw [HP3.out] at this; exact this), Lib.hid ?_, hw3.trans (k2.mono (by omega))⟩
         intro p hp
         rw [List.mem_append, List.mem_singleton] at hp
         rcases hp with hp | rfl
         · exact htx.out p hp
         · exact ht
        case measure => simp [intOf]
      · obtain ⟨r, hr⟩ : ∃ r, x % 4 = r := ⟨_, rfl⟩
        have z0 : (x : Int) % 4 = (r : Int) := by omega
        have z2 : ((r : Int) == 2) = false := by simp; omega
        rw [if_neg hx2, hr] at HP
        rw [z0] at hbl
        have HP' : Hid (rP s.data.toList = (((r : Int), (q : Int), emp), s2.data.toList, b2)) := HP
        have d0 := hbl.cell 0
        have d1 := hbl.cell 1
        have d2 := hbl.cell 2
        have dl := hbl.lt
        have f0 := hbl.frozen 0
        have f1 := hbl.frozen 1
        have f2 := hbl.frozen 2
        have hr3 : r ≠ 2 := by omega
        clear HP hbl hq hx2 hr
        have Hown4 : Hid (OwnP (w2.alloc (.cells #[.int .i64 r, .int .i64 q, .string ⟨#[]⟩] 88)) (w.heap.size + 1) (.slice A n9 c) l) := Lib.hid (World.ownsRow.alloc Ho2.out _)
        have Hr3 : Hid (Rr (w2.alloc (.cells #[.int .i64 r, .int .i64 q, .string ⟨#[]⟩] 88)) w.heap.size s2 b2) := Lib.hid (Hr2.out.alloc _)
        have hw3 : Below w.heap.size w (w2.alloc (.cells #[.int .i64 r, .int .i64 q, .string ⟨#[]⟩] 88)) := hw2.alloc hw2.size _
        have hl9 : l.length ≤ 2147483647 := by omega
        have hG9 : (w2.alloc (.cells #[.int .i64 r, .int .i64 q, .string ⟨#[]⟩] 88)).heap.size = w2.heap.size + 1 := by simp
        have hB9 : w.heap.size + 1 ≤ (w2.alloc (.cells #[.int .i64 r, .int .i64 q, .string ⟨#[]⟩] 88)).heap.size := by rw [hG9]; omega
        have hn10 : (l ++ [(((r : Int), (q : Int), (⟨#[]⟩ : ByteArray)) : Pt)]).length = n9 + 1 := by simp [hn9]
        go_wp2_with (first | (at_builtin; go_loud (refine wpList_app_part_big _ rfl (.tmp 41) (.tmp 43) rfl (w.heap.size + 1) _ l rfl Hown4.out r q ⟨#[]⟩ 1 (w2.heap.size + 1) hG9 rfl hl9 hB9 ?_; intro v4 w4 k1 k2 k3; obtain ⟨A4, c4, rfl⟩ := k1.form_ (n := n9 + 1) hn10)))
        go_wp2_with fail
        go_roundw
        case rel =>
         refine ⟨m', s2, b2, l ++ [(((r : Int), (q : Int), (⟨#[]⟩ : ByteArray)) : Pt)], by go_num, Lib.hid (Hr3.out.below k2 (by omega)), Lib.hid k1, by simp; omega, by omega, Lib.hid (by have := Hrl.out; rw [HP'.out] at this; exact this), Lib.hid ?_, hw3.trans (k2.mono (by omega))⟩
         intro p hp
         rw [List.mem_append, List.mem_singleton] at hp
         rcases hp with hp | rfl
         · exact htx.out p hp
         · exact Nat.zero_le _
        case measure => simp [intOf]


theorem mcut_raw (g : Nat) (v : Value) (p : ByteArray) (c n : Int) (w : World) (h : Blk w g 105 #[v, .string p, .int .i64 c]) (h0 : 0 ≤ c) (h1 : c ≤ 100000000) (h2 : 0 ≤ n) (h3 : n ≤ 100000000) :
 Calls Try.prog 65 #[.pointer (some ⟨g, 0, none⟩), .int .i64 n] w fun e w' => e = .returned (.tuple #[]) ∧ w' = w.setCell ⟨g, 2, none⟩ (.int .i64 (c + n)) := by
 have c2 := h.cell 2
 have f2 := h.frozen 2
 have hl := h.lt
 clear h
 go_enter Try.func65, Try.ntmps65
 go_wp2_with fail
 go_end0
 exact ⟨rfl, rfl⟩
theorem mput_raw (g : Nat) (v : Value) (p s : ByteArray) (c : Int) (w : World) (h : Blk w g 105 #[v, .string p, .int .i64 c]) (h1 : p.size ≤ 100000000) (h2 : s.size ≤ 100000000) :
 Calls Try.prog 66 #[.pointer (some ⟨g, 0, none⟩), .string s] w fun e w' => e = .returned (.tuple #[]) ∧ w' = w.setCell ⟨g, 1, none⟩ (.string (p ++ s)) := by
 have c1 := h.cell 1
 have f1 := h.frozen 1
 have hl := h.lt
 clear h
 go_enter Try.func66, Try.ntmps66
 go_wp2_with fail
 go_end0
 exact ⟨rfl, rfl⟩
theorem mcut_any {B g : Nat} {ob : Option Nat} {us : List U} {w : World} (n : Int) (h : Mk w B g ob us) (hl : us.length ≤ 100000000) (h2 : 0 ≤ n) (h3 : n ≤ 100000000) :
 Calls Try.prog 65 #[.pointer (some ⟨g, 0, none⟩), .int .i64 n] w fun e w' => e = .returned (.tuple #[]) ∧ Mk w' B g ob (us ++ cu n) ∧ Only w w' (fun k => k = g ∨ ob = some k) := by
 obtain ⟨o, p, c, ⟨v, hb, ho, hob⟩, hr⟩ := h
 obtain ⟨_, _, h4, h5, _, _⟩ := hr.bounds
 refine (mcut_raw g v p c n w hb h4 (by omega) h2 h3).mono ?_
 rintro e w' ⟨rfl, rfl⟩
 have hs : Only w (w.setCell ⟨g, 2, none⟩ (.int .i64 (c + n))) (fun k => k = g) := Only.setCell _ _ _ rfl
 refine ⟨rfl, ⟨o, p, c + n, ⟨v, hb.set_ 2 _, ?_, hob⟩, hr.cut h2⟩, hs.mono fun k _ h => .inl h⟩
 exact own_only ho hs fun k hk he => own_blk_ne (t := 105) ho hb (by decide) (by rw [hk, he])
theorem mput_any {B g : Nat} {ob : Option Nat} {us : List U} {w : World} (s : ByteArray) (h : Mk w B g ob us) (hl : us.length ≤ 100000000) (h3 : s.size ≤ 100000000) :
 Calls Try.prog 66 #[.pointer (some ⟨g, 0, none⟩), .string s] w fun e w' => e = .returned (.tuple #[]) ∧ Mk w' B g ob (us ++ pu s) ∧ Only w w' (fun k => k = g ∨ ob = some k) := by
 obtain ⟨o, p, c, ⟨v, hb, ho, hob⟩, hr⟩ := h
 obtain ⟨_, h4, _, _, _, _⟩ := hr.bounds
 refine (mput_raw g v p s c w hb (by omega) h3).mono ?_
 rintro e w' ⟨rfl, rfl⟩
 have hs : Only w (w.setCell ⟨g, 1, none⟩ (.string (p ++ s))) (fun k => k = g) := Only.setCell _ _ _ rfl
 refine ⟨rfl, ⟨o, p ++ s, c, ⟨v, hb.set_ 1 _, ?_, hob⟩, hr.put s⟩, hs.mono fun k _ h => .inl h⟩
 exact own_only ho hs fun k hk he => own_blk_ne (t := 105) ho hb (by decide) (by rw [hk, he])
def FlP (w : World) (B g : Nat) (ob : Option Nat) (o : List Pt) (w' : World) : Prop := ∃ ob', MkS w' B g ob' o emp 0 ∧ MFr w w' g ob ob'
theorem MFr.refl (w : World) (g : Nat) (ob : Option Nat) : MFr w w g ob ob := ⟨Only.refl _ _, .inl rfl⟩
theorem MFr.trans {w w' w'' : World} {g : Nat} {a b c : Option Nat} (h : MFr w w' g a b) (h' : MFr w' w'' g b c) : MFr w w'' g a c := by
 obtain ⟨h1, h2⟩ := h
 obtain ⟨h3, h4⟩ := h'
 have hsz := h1.2.2.2.1
 refine ⟨?_, ?_⟩
 · refine ⟨h3.1.trans h1.1, h3.2.1.trans h1.2.1, h3.2.2.1.trans h1.2.2.1, Nat.le_trans hsz h3.2.2.2.1, fun k hk hs => ?_⟩
   refine (h3.2.2.2.2 k (by omega) ?_).trans (h1.2.2.2.2 k hk hs)
   rintro (rfl | hb)
   · exact hs (.inl rfl)
   · rcases h2 with rfl | h2
     · exact hs (.inr hb)
     · have := h2 k hb; omega
 · rcases h4 with rfl | h4
   · exact h2
   · exact .inr fun k hk => Nat.le_trans hsz (h4 k hk)
theorem MFr.of_only {w w' : World} {g : Nat} {ob : Option Nat} (h : Only w w' (fun k => k = g)) : MFr w w' g ob ob := ⟨h.mono fun _ _ h => .inl h, .inl rfl⟩
theorem fl_app {w w1 : World} {B g : Nat} {ob : Option Nat} {v v1 P C : Value} {o o1 : List Pt} (hb : Blk w g 105 #[v, P, C]) (ho : OwnP w B v o) (hob : v.ownBlock = ob) (h1 : OwnP w1 B v1 o1) (h3 : w.grownBy w1 v.ownBlock)
 (h4 : v1.ownBlock = v.ownBlock ∨ v1.ownBlock = some (w.heap.size + 1)) :
 Blk (w1.setCell ⟨g, 0, none⟩ v1) g 105 #[v1, P, C] ∧ OwnP (w1.setCell ⟨g, 0, none⟩ v1) B v1 o1 ∧ MFr w (w1.setCell ⟨g, 0, none⟩ v1) g ob v1.ownBlock := by
 subst hob
 have hne : some g ≠ v.ownBlock := Ne.symm (own_blk_ne (t := 105) ho hb (by decide))
 have hb1 := hb.grown h3 hne
 have hs := Only.setSelf w1 g 0 v1
 refine ⟨hb1.set_ 0 v1, own_only h1 hs fun k hk he => own_blk_ne (t := 105) h1 hb1 (by decide) (by rw [hk, he]), ?_, ?_⟩
 · exact ((Only.of_grown h3).mono fun k _ h => .inr h).trans (hs.mono fun k _ h => .inl h)
 · rcases h4 with h4 | h4
   · exact .inl h4
   · exact .inr fun k hk => by rw [h4] at hk; injection hk with hk; omega
theorem fl_clear {w : World} {B g : Nat} {v P C : Value} {o : List Pt} (hb : Blk w g 105 #[v, P, C]) (ho : OwnP w B v o) :
 MkS ((w.setCell ⟨g, 1, none⟩ (.string ⟨#[]⟩)).setCell ⟨g, 2, none⟩ (.int .i64 0)) B g v.ownBlock o emp 0 ∧ MFr w ((w.setCell ⟨g, 1, none⟩ (.string ⟨#[]⟩)).setCell ⟨g, 2, none⟩ (.int .i64 0)) g v.ownBlock v.ownBlock := by
 have hs : Only w ((w.setCell ⟨g, 1, none⟩ (.string ⟨#[]⟩)).setCell ⟨g, 2, none⟩ (.int .i64 0)) (fun k => k = g) := (Only.setSelf _ _ _ _).trans (Only.setSelf _ _ _ _)
 exact ⟨⟨v, (hb.set_ 1 _).set_ 2 _, own_only ho hs fun k hk he => own_blk_ne (t := 105) ho hb (by decide) (by rw [hk, he]), rfl⟩, MFr.of_only hs⟩
theorem flush_none (g : Nat) (v : Value) (o : List Pt) (B : Nat) (ob : Option Nat) (c : Int) (w : World) (hb : Blk w g 105 #[v, .string ⟨#[]⟩, .int .i64 c]) (ho : OwnP w B v o) (hob : v.ownBlock = ob) (hc : c ≤ 0) :
 Calls Try.prog 99 #[.pointer (some ⟨g, 0, none⟩)] w fun e w' => e = .returned (.tuple #[]) ∧ FlP w B g ob o w' := by
 have c1 := hb.cell 1
 have f1 := hb.frozen 1
 have c2 := hb.cell 2
 have f2 := hb.frozen 2
 have hl := hb.lt
 have Hb := Lib.hid hb
 have Ho := Lib.hid ho
 have Hob := Lib.hid hob
 clear hb ho hob
 go_enter Try.func99, Try.ntmps99
 go_wp2_with fail
 go_end0
 have hs : Only w ((w.setCell ⟨g, 1, none⟩ (.string ⟨#[]⟩)).setCell ⟨g, 2, none⟩ (.int .i64 0)) (fun k => k = g) := (Only.setSelf _ _ _ _).trans (Only.setSelf _ _ _ _)
 refine ⟨rfl, ob, ⟨v, (Hb.out.set_ 1 _).set_ 2 _, ?_, Hob.out⟩, hs.mono fun k _ h => .inl h, .inl rfl⟩
 exact own_only Ho.out hs fun k hk he => own_blk_ne (t := 105) Ho.out Hb.out (by decide) (by rw [hk, he])
theorem flush_put (g : Nat) (v : Value) (o : List Pt) (B : Nat) (ob : Option Nat) (p : ByteArray) (c : Int) (w : World) (hb : Blk w g 105 #[v, .string p, .int .i64 c]) (ho : OwnP w B v o) (hob : v.ownBlock = ob) (hc : c ≤ 0)
 (hp : p.toList.isEmpty = false) (hlen0 : o.length ≤ 100000000) (hB0 : B ≤ w.heap.size) :
 Calls Try.prog 99 #[.pointer (some ⟨g, 0, none⟩)] w fun e w' => e = .returned (.tuple #[]) ∧ FlP w B g ob (o ++ [(2, 0, p)]) w' := by
 have c0 := hb.cell 0
 have f0 := hb.frozen 0
 have c1 := hb.cell 1
 have f1 := hb.frozen 1
 have c2 := hb.cell 2
 have f2 := hb.frozen 2
 have hl := hb.lt
 obtain ⟨A, cp, hv⟩ := ho.form
 subst hv
 have Hne0 := Lib.hid (Ne.symm (own_blk_ne (t := 105) ho hb (by decide)))
 have Hb0 := Lib.hid hb
 have Ho0 := Lib.hid ho
 have Hob := Lib.hid hob
 clear hb ho hob
 go_enter Try.func99, Try.ntmps99
 go_wp2_with fail
 go_region_law (first | (refine step_app_drew _ rfl (.tmp 11) (.tmp 17) rfl B _ o (by simp [Act.eval, Act.put]) Ho0.out 2 0 p 1 (by simp [Act.eval, Act.put]) (by omega) hB0 ?_; intro v1 w1 g1 g2 g3 g4; obtain ⟨A1, c1', rfl⟩ := g1.form_ (n := o.length + 1) (by simp); have hb1 := Blk.grown Hb0.out g3 Hne0.out; have d0 := hb1.cell 0; have d1 := hb1.cell 1; have d2 := hb1.cell 2; have e0 := hb1.frozen 0; have e1 := hb1.frozen 1; have e2 := hb1.frozen 2; have l1 := hb1.lt))
 all_goals
  have Hb1 := Lib.hid (fl_app Hb0.out Ho0.out Hob.out g1 g3 g4)
  clear hb1 g1 g2 g3 g4
  go_wp2_with fail
  go_end0
  refine ⟨rfl, _, (fl_clear Hb1.out.1 Hb1.out.2.1).1, Hb1.out.2.2.trans (fl_clear Hb1.out.1 Hb1.out.2.1).2⟩
theorem flush_cut (g : Nat) (v : Value) (o : List Pt) (B : Nat) (ob : Option Nat) (c : Int) (w : World) (hb : Blk w g 105 #[v, .string ⟨#[]⟩, .int .i64 c]) (ho : OwnP w B v o) (hob : v.ownBlock = ob) (hc : 0 < c)
 (hlen0 : o.length ≤ 100000000) (hB0 : B ≤ w.heap.size) :
 Calls Try.prog 99 #[.pointer (some ⟨g, 0, none⟩)] w fun e w' => e = .returned (.tuple #[]) ∧ FlP w B g ob (o ++ [(3, c, ⟨#[]⟩)]) w' := by
 have c0 := hb.cell 0
 have f0 := hb.frozen 0
 have c1 := hb.cell 1
 have f1 := hb.frozen 1
 have c2 := hb.cell 2
 have f2 := hb.frozen 2
 have hl := hb.lt
 obtain ⟨A, cp, hv⟩ := ho.form
 subst hv
 have Hne0 := Lib.hid (Ne.symm (own_blk_ne (t := 105) ho hb (by decide)))
 have Hb0 := Lib.hid hb
 have Ho0 := Lib.hid ho
 have Hob := Lib.hid hob
 clear hb ho hob
 go_enter Try.func99, Try.ntmps99
 go_wp2_with fail
 go_region_law (first | (refine step_app_drew _ rfl (.tmp 30) (.tmp 36) rfl B _ o (by simp [Act.eval, Act.put]) Ho0.out 3 c ⟨#[]⟩ 1 (by simp [Act.eval, Act.put]) (by omega) hB0 ?_; intro v1 w1 g1 g2 g3 g4; obtain ⟨A1, c1', rfl⟩ := g1.form_ (n := o.length + 1) (by simp); have hb1 := Blk.grown Hb0.out g3 Hne0.out; have d0 := hb1.cell 0; have d1 := hb1.cell 1; have d2 := hb1.cell 2; have e0 := hb1.frozen 0; have e1 := hb1.frozen 1; have e2 := hb1.frozen 2; have l1 := hb1.lt))
 all_goals
  have Hb1 := Lib.hid (fl_app Hb0.out Ho0.out Hob.out g1 g3 g4)
  clear hb1 g1 g2 g3 g4
  go_wp2_with fail
  go_end0
  refine ⟨rfl, _, (fl_clear Hb1.out.1 Hb1.out.2.1).1, Hb1.out.2.2.trans (fl_clear Hb1.out.1 Hb1.out.2.1).2⟩
theorem flush_both (g : Nat) (v : Value) (o : List Pt) (B : Nat) (ob : Option Nat) (p : ByteArray) (c : Int) (w : World) (hb : Blk w g 105 #[v, .string p, .int .i64 c]) (ho : OwnP w B v o) (hob : v.ownBlock = ob) (hc : 0 < c)
 (hp : p.toList.isEmpty = false) (hlen0 : o.length ≤ 99999999) (hB0 : B ≤ w.heap.size) :
 Calls Try.prog 99 #[.pointer (some ⟨g, 0, none⟩)] w fun e w' => e = .returned (.tuple #[]) ∧ FlP w B g ob (o ++ [(2, 0, p)] ++ [(3, c, ⟨#[]⟩)]) w' := by
 have c0 := hb.cell 0
 have f0 := hb.frozen 0
 have c1 := hb.cell 1
 have f1 := hb.frozen 1
 have c2 := hb.cell 2
 have f2 := hb.frozen 2
 have hl := hb.lt
 obtain ⟨A, cp, hv⟩ := ho.form
 subst hv
 have Hne0 := Lib.hid (Ne.symm (own_blk_ne (t := 105) ho hb (by decide)))
 have Hb0 := Lib.hid hb
 have Ho0 := Lib.hid ho
 have Hob := Lib.hid hob
 clear hb ho hob
 go_enter Try.func99, Try.ntmps99
 go_wp2_with fail
 go_region_law (first | (refine step_app_drew _ rfl (.tmp 11) (.tmp 17) rfl B _ o (by simp [Act.eval, Act.put]) Ho0.out 2 0 p 1 (by simp [Act.eval, Act.put]) (by omega) hB0 ?_; intro v1 w1 g1 g2 g3 g4; obtain ⟨A1, c1', rfl⟩ := g1.form_ (n := o.length + 1) (by simp); have hb1 := Blk.grown Hb0.out g3 Hne0.out; have d0 := hb1.cell 0; have d1 := hb1.cell 1; have d2 := hb1.cell 2; have e0 := hb1.frozen 0; have e1 := hb1.frozen 1; have e2 := hb1.frozen 2; have l1 := hb1.lt))
 all_goals
  have Hb1 := Lib.hid (fl_app Hb0.out Ho0.out Hob.out g1 g3 g4)
  have hB1 : B ≤ w1.heap.size := by have := g2.size; omega
  clear hb1 g1 g2 g3 g4 c0 c1 c2 f0 f1 f2 hl
  go_wp2_with fail
  have hsz1 : (w1.setCell ⟨g, 0, none⟩ (.slice A1 (o.length + 1) c1')).heap.size = w1.heap.size := by simp [World.setCell]
  rw [← hsz1] at hB1
  clear hsz1 d0 d1 d2 e0 e1 e2 l1
  generalize w1.setCell ⟨g, 0, none⟩ (.slice A1 (o.length + 1) c1') = W1 at *
  have hb := Hb1.out.1
  have ho := Hb1.out.2.1
  have c0 := hb.cell 0
  have f0 := hb.frozen 0
  have c1 := hb.cell 1
  have f1 := hb.frozen 1
  have c2 := hb.cell 2
  have f2 := hb.frozen 2
  have hl := hb.lt
  have hlen1 : (o ++ [((2, 0, p) : Pt)]).length ≤ 100000000 := by rw [List.length_append, List.length_singleton]; omega
  have Hne1 := Lib.hid (Ne.symm (own_blk_ne (t := 105) ho hb (by decide)))
  have Hbb1 := Lib.hid hb
  have Ho1 := Lib.hid ho
  clear hb ho
  go_region_law (first | (refine step_app_drew _ rfl (.tmp 30) (.tmp 36) rfl B _ (o ++ [((2, 0, p) : Pt)]) (by simp [Act.eval, Act.put]) Ho1.out 3 c ⟨#[]⟩ 1 (by simp [Act.eval, Act.put]) hlen1 hB1 ?_; intro v1 w1 g1 g2 g3 g4; obtain ⟨A2, c2', rfl⟩ := g1.form_ (n := o.length + 2) (by simp); have hb1 := Blk.grown Hbb1.out g3 Hne1.out; have d0 := hb1.cell 0; have d1 := hb1.cell 1; have d2 := hb1.cell 2; have e0 := hb1.frozen 0; have e1 := hb1.frozen 1; have e2 := hb1.frozen 2; have l1 := hb1.lt))
  all_goals
   have Hb2 := Lib.hid (fl_app Hbb1.out Ho1.out rfl g1 g3 g4)
   clear hb1 g1 g2 g3 g4
   go_wp2_with fail
   go_end0
   refine ⟨rfl, _, (fl_clear Hb2.out.1 Hb2.out.2.1).1, Hb1.out.2.2.trans (Hb2.out.2.2.trans (fl_clear Hb2.out.1 Hb2.out.2.1).2)⟩
theorem bump_snoc (n : Int) (l : List Pt) (p : Pt) : bump n (l ++ [p]) = if p.1 = 1 then l ++ [(1, p.2.1 + n, emp)] else l ++ [p] ++ [(1, n, emp)] := by
 induction l with
 | nil => simp only [List.nil_append, bump]; split <;> rfl
 | cons q l ih =>
   rcases hl : l ++ [p] with _ | ⟨x, r⟩
   · simp at hl
   · have e : bump n (q :: l ++ [p]) = q :: bump n (l ++ [p]) := by
      rw [List.cons_append, hl]; rfl
     rw [e, ih]
     split <;> simp
theorem pc_set (I : List Pt) (k m u : Int) (t : ByteArray) : (pc (I ++ [(k, m, t)])).set (I.length * 3 + 1) (.int .i64 u) = pc (I ++ [(k, u, t)]) := by
 rw [pc_append, pc_append, List.set_append_right _ _ (by rw [pc_len]; omega), pc_len, show I.length * 3 + 1 - I.length * 3 = 1 by omega]
 rfl
theorem keep_last {w : World} {B g h cp : Nat} {I : List Pt} {m n : Int} {t : ByteArray} {P C : Value} (hb : Blk w g 105 #[.slice (some ⟨h, 0, none⟩) (I.length + 1) cp, P, C])
 (ho : OwnP w B (.slice (some ⟨h, 0, none⟩) (I.length + 1) cp) (I ++ [(1, m, t)])) (hgh : g ≠ h) :
 Blk (w.setCell ⟨h, I.length * 3 + 1, none⟩ (.int .i64 (m + n))) g 105 #[.slice (some ⟨h, 0, none⟩) (I.length + 1) cp, P, C] ∧
  OwnP (w.setCell ⟨h, I.length * 3 + 1, none⟩ (.int .i64 (m + n))) B (.slice (some ⟨h, 0, none⟩) (I.length + 1) cp) (I ++ [(1, m + n, t)]) ∧
  MFr w (w.setCell ⟨h, I.length * 3 + 1, none⟩ (.int .i64 (m + n))) g (some h) (some h) := by
 refine ⟨hb.far hgh _, ?_, ?_, .inl rfl⟩
 · unfold OwnP at ho ⊢
   rw [List.length_append, List.length_singleton] at ho ⊢
   have := (World.ownsRow.stored ho (I.length * 3 + 1) (.int .i64 (m + n))).1
   rwa [pc_set] at this
 · exact (Only.setSelf w h (I.length * 3 + 1) (.int .i64 (m + n))).mono fun k _ hk => .inr (by rw [hk])
theorem flush_any {B g : Nat} {ob : Option Nat} {us : List U} {o : List Pt} {p : ByteArray} {c : Int} {w : World} (h : MkS w B g ob o p c) (hr : MRep us o p c) (hl : us.length ≤ 99999999) (hB : B ≤ w.heap.size) :
 Calls Try.prog 99 #[.pointer (some ⟨g, 0, none⟩)] w fun e w' => e = .returned (.tuple #[]) ∧ FlP w B g ob (grp (cz us)) w' := by
 rw [← hr.flush]
 obtain ⟨v, hb, ho, hob⟩ := h
 obtain ⟨h1, _, h3, _, _, _⟩ := hr.bounds
 unfold pend
 rcases str_cases p with rfl | ⟨hp, hp1⟩
 · rw [if_pos (show (⟨#[]⟩ : ByteArray).size = 0 from rfl), List.nil_append]
   by_cases hc : 0 < c
   · rw [if_pos hc]
     exact flush_cut g v o B ob c w hb ho hob hc (by omega) hB
   · rw [if_neg hc, List.append_nil]
     exact flush_none g v o B ob c w hb ho hob (by omega)
 · rw [if_neg (by omega)]
   by_cases hc : 0 < c
   · rw [if_pos hc, ← List.append_assoc]
     exact flush_both g v o B ob p c w hb ho hob hc hp (by omega) hB
   · rw [if_neg hc, List.append_nil]
     exact flush_put g v o B ob p c w hb ho hob (by omega) hp (by omega) hB
theorem mdone_any {B g : Nat} {ob : Option Nat} {us : List U} {w : World} (h : Mk w B g ob us) (hl : us.length ≤ 99999999) (hB : B ≤ w.heap.size) :
 Calls Try.prog 67 #[.pointer (some ⟨g, 0, none⟩)] w fun e w' => ∃ v ob', e = .returned v ∧ OwnP w' B v (grp (cz us)) ∧ v.ownBlock = ob' ∧ MFr w w' g ob ob' := by
 obtain ⟨o, p, c, hs, hr⟩ := h
 have Hs := Lib.hid hs
 have Hr := Lib.hid hr
 clear hs hr
 go_enter Try.func67, Try.ntmps67
 go_wp2_with fail
 refine (flush_any Hs.out Hr.out hl hB).mono ?_
 rintro e w1 ⟨rfl, ob1, ⟨v, hb, ho, hob⟩, hfr⟩
 have c0 := hb.cell 0
 have hl1 := hb.lt
 have Hfin : Hid (∃ v_1 ob', Ending.returned v = .returned v_1 ∧ OwnP w1 B v_1 (grp (cz us)) ∧ v_1.ownBlock = ob' ∧ MFr w w1 g ob ob') := Lib.hid ⟨v, ob1, rfl, ho, hob, hfr⟩
 obtain ⟨A1, c1, hv⟩ := ho.form
 subst hv
 clear hb ho hob hfr
 go_wp2_with fail
 go_ret
 exact Hfin.out
theorem mkeep_zero {B g : Nat} {ob : Option Nat} {us : List U} {w : World} (h : Mk w B g ob us) :
 Calls Try.prog 64 #[.pointer (some ⟨g, 0, none⟩), .int .i64 0] w fun e w' => e = .returned (.tuple #[]) ∧ w = w' := by
 clear h
 go_enter Try.func64, Try.ntmps64
 go_wp2_with fail
 refine bodyPost_ret (results_none rfl _ _ _) rfl ?_
 exact ⟨rfl, rfl⟩
theorem mkeep_pos {B g : Nat} {ob : Option Nat} {us : List U} {w : World} (n : Int) (h : Mk w B g ob us) (hl : us.length ≤ 99999990) (hB : B ≤ w.heap.size) (hn : 0 < n) (hn2 : n ≤ 100000000) :
 Calls Try.prog 64 #[.pointer (some ⟨g, 0, none⟩), .int .i64 n] w fun e w' => e = .returned (.tuple #[]) ∧ ∃ ob', Mk w' B g ob' (us ++ ku n) ∧ MFr w w' g ob ob' := by
 obtain ⟨o, p, c, hs, hr⟩ := h
 have hk := hr.keep hn
 rw [hr.flush] at hk
 have Hk := Lib.hid hk
 have Hs := Lib.hid hs
 have Hr := Lib.hid hr
 have hne : (n == 0) = false := by simp; omega
 have hfine := fine_grp (cz us)
 have hbd := len_units (grp (cz us)) hfine
 rw [units_grp, len_cz] at hbd
 have Hlg := Lib.hid (len_grp (cz us))
 have Hlc := Lib.hid (len_cz us)
 have Hfine := Lib.hid hfine
 have Hbd := Lib.hid hbd
 clear hs hr hk hfine hbd
 go_enter Try.func64, Try.ntmps64
 go_wp2_with fail
 refine (flush_any Hs.out Hr.out (by omega) hB).mono ?_
 rintro e w1 ⟨rfl, ob1, ⟨v, hb, ho, hob⟩, hfr⟩
 have hB1 : B ≤ w1.heap.size := by have := hfr.1.2.2.2.1; omega
 generalize hO : grp (cz us) = O at *
 have hlenO : O.length ≤ 99999990 := by have := Hlg.out; have := Hlc.out; omega
 clear hO
 have Hfr := Lib.hid hfr
 have Hob := Lib.hid hob
 have c0 := hb.cell 0
 have f0 := hb.frozen 0
 have c1 := hb.cell 1
 have c2 := hb.cell 2
 have hl1 := hb.lt
 have Hne := Lib.hid (Ne.symm (own_blk_ne (t := 105) ho hb (by decide)))
 have Hb := Lib.hid hb
 have Ho := Lib.hid ho
 clear hb hob hfr
 rcases List.eq_nil_or_concat O with rfl | ⟨I, l, rfl⟩
 · obtain ⟨A, cp, hv⟩ := ho.form_ (n := 0) rfl
   subst hv
   clear ho
   have hbn : Hid (bump n [] = [] ++ [(1, n, emp)]) := Lib.hid rfl
   go_wp2_with (first | (at_builtin; refine wpList_app_part _ rfl (.tmp 44) (.tmp 47) rfl B _ [] rfl Ho.out 1 n ⟨#[]⟩ 1 rfl (by simp) hB1 ?_; intro v2 w2 g1 g2 g3 g4; obtain ⟨A2, c2', rfl⟩ := g1.form_ (n := 1) rfl; have hb1 := Blk.grown Hb.out g3 Hne.out; have d0 := hb1.cell 0; have d1 := hb1.cell 1; have d2 := hb1.cell 2; have e0 := hb1.frozen 0; have e1 := hb1.frozen 1; have e2 := hb1.frozen 2; have l1 := hb1.lt))
   go_end0
   have Hf := fl_app Hb.out Ho.out Hob.out g1 g3 g4
   exact ⟨rfl, _, ⟨_, _, _, ⟨_, Hf.1, Hf.2.1, rfl⟩, by have := Hk.out; rw [hbn.out] at this; exact this⟩, Hfr.out.trans Hf.2.2⟩
 · rw [List.concat_eq_append] at *
   have hpc : pc (I ++ [l]) ≠ [] := by rw [pc_append]; simp [pc, pcells]
   obtain ⟨h, cp, hv0, hnc, hcm⟩ := own_nil ho hpc
   have hv := hv0
   rw [List.length_append, List.length_singleton] at hv hlenO
   subst hv
   have hcell := fun j hj => World.ownsRow.cellAt (show w1.ownsRow B 88 3 (.slice (some ⟨h, 0, none⟩) (I.length + 1) cp) (I.length + 1) (pc (I ++ [l])) from by have := ho; unfold OwnP at this; rwa [List.length_append, List.length_singleton] at this) j hj
   have hlast : (I ++ [l])[I.length]'(by simp) = l := by simp
   obtain ⟨p0, p1, p2⟩ := pc_at (I ++ [l]) I.length (by simp)
   rw [hlast] at p0 p1 p2
   have hc0 := (hcell (I.length * 3) (by omega)).trans p0
   have hc1 := (hcell (I.length * 3 + 1) (by omega)).trans p1
   have hfz : w1.frozen? ⟨h, I.length * 3 + 1, none⟩ = false := World.ownsRow.frozenAt (show w1.ownsRow B 88 3 (.slice (some ⟨h, 0, none⟩) (I.length + 1) cp) (I.length + 1) (pc (I ++ [l])) from by have := ho; unfold OwnP at this; rwa [List.length_append, List.length_singleton] at this) _
   have hsh := Hfine.out l (by simp)
   have hbl := Hbd.out l (by simp)
   have hlt := own_lt ho h rfl
   obtain ⟨kd, m, t⟩ := l
   simp only at hc0 hc1
   have hI0 : (0 : Int) ≤ (I.length : Int) := by omega
   have hgh : g ≠ h := fun e => Hne.out (by rw [e]; rfl)
   have Hbs := Lib.hid (bump_snoc n I (kd, m, t))
   clear hcell p0 p1 p2 hlast hpc hv0
   by_cases hkd : kd = 1
   · subst hkd
     have hm : 1 ≤ m ∧ m ≤ us.length ∧ t = emp := by
      rcases hsh with ⟨_, h2, h3⟩ | ⟨h2, _, _⟩
      · simp only [lenP] at hbl h2 h3
        simp at hbl
        exact ⟨h2, by omega, h3⟩
      · simp at h2
     obtain ⟨hm1, hm2, rfl⟩ := hm
     have hm3 : m ≤ 99999990 := by omega
     clear hsh hbl ho hm2
     go_wp2_with fail
     refine bodyPost_ret (results_none rfl _ _ _) rfl ?_
     have hK := keep_last (n := n) Hb.out Ho.out hgh
     have hob : ob1 = some h := by rw [← Hob.out]; rfl
     subst hob
     refine ⟨rfl, some h, ⟨_, _, _, ⟨_, hK.1, hK.2.1, rfl⟩, ?_⟩, Hfr.out.trans hK.2.2⟩
     have h1 := Hk.out
     have h2 := Hbs.out
     rw [if_pos trivial] at h2
     rw [h2] at h1
     exact h1
   · have hkd' : (kd == 1) = false := by simpa using hkd
     have hlb : (I ++ [((kd, m, t) : Pt)]).length ≤ 100000000 := by rw [List.length_append, List.length_singleton]; omega
     have Hkd := Lib.hid hkd
     clear hsh hbl ho hkd
     go_wp2_with (first | (at_builtin; refine wpList_app_part _ rfl (.tmp 44) (.tmp 47) rfl B _ (I ++ [((kd, m, t) : Pt)]) rfl Ho.out 1 n ⟨#[]⟩ 1 rfl hlb hB1 ?_; intro v2 w2 g1 g2 g3 g4; obtain ⟨A2, c2', rfl⟩ := g1.form_ (n := I.length + 2) (by simp); have hb1 := Blk.grown Hb.out g3 Hne.out; have d0 := hb1.cell 0; have d1 := hb1.cell 1; have d2 := hb1.cell 2; have e0 := hb1.frozen 0; have e1 := hb1.frozen 1; have e2 := hb1.frozen 2; have l1 := hb1.lt))
     go_end0
     have Hf := fl_app Hb.out Ho.out Hob.out g1 g3 g4
     refine ⟨rfl, _, ⟨_, _, _, ⟨_, Hf.1, Hf.2.1, rfl⟩, ?_⟩, Hfr.out.trans Hf.2.2⟩
     have h1 := Hk.out
     rw [Hbs.out, if_neg Hkd.out] at h1
     exact h1
theorem mkeep_any {B g : Nat} {ob : Option Nat} {us : List U} {w : World} (n : Int) (h : Mk w B g ob us) (hl : us.length ≤ 99999990) (hB : B ≤ w.heap.size) (hn : 0 ≤ n) (hn2 : n ≤ 100000000) :
 Calls Try.prog 64 #[.pointer (some ⟨g, 0, none⟩), .int .i64 n] w fun e w' => e = .returned (.tuple #[]) ∧ ∃ ob', Mk w' B g ob' (us ++ ku n) ∧ MFr w w' g ob ob' := by
 rcases (show n = 0 ∨ 0 < n by omega) with rfl | h0
 · refine (mkeep_zero h).mono ?_
   rintro e w' ⟨rfl, rfl⟩
   exact ⟨rfl, ob, by simpa [ku] using h, MFr.refl _ _ _⟩
 · exact mkeep_pos n h hl hB h0 hn2
end Go.Proofs.Ytokngfinnieccaa
