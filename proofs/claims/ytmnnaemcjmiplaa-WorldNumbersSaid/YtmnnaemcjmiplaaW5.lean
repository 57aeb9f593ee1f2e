/- Contracts of revs.One, texts, Check, Text. Contracts of num.Put and what it makes: the bytes of a number. Contract of num.Get and what it makes. Numbers written and read; what is read is written as it was. Deltas as bytes; plain lists. What a slot says: a log as a struct of 38 cells. Contracts of code.put, code.Write. Contracts of code.Read and its reader. hot.take: a number off a text. Contract of hot.head. -/
import Derived.Test.YtmnnaemcjmiplaaW4
import Derived.Test.YtmnnaemcjmiplaaW1
import Derived.Test.YtmnnaemcjmiplaaW3
import Derived.StillTailTactics
namespace Go.Proofs.Ytmnnaemcjmiplaa
open Go.ChangeShapes Go.WideShapes Go.RowKit
set_option linter.unusedVariables false
set_option linter.unusedSimpArgs false
set_option maxRecDepth 100000
set_option maxHeartbeats 4000000

abbrev Sl := Option Addr × Nat × Nat
def rvcells (r : Rv) (s : Sl) : List Value := [.int .i64 r.1, .int .i64 r.2.1, .slice s.1 s.2.1 s.2.2]
def rc : List Rv → List Sl → List Value
  | r :: l, s :: ss => rvcells r s ++ rc l ss
  | _, _ => []
theorem rc_len : ∀ (l : List Rv) (ss : List Sl), ss.length = l.length → (rc l ss).length = l.length * 3
  | [], [], _ => rfl
  | [], _ :: _, h => by simp at h
  | _ :: _, [], h => by simp at h
  | r :: l, s :: ss, h => by simp only [rc, List.length_append, rvcells, List.length_cons, List.length_nil]; rw [rc_len l ss (by simpa using h)]; omega
theorem rc_at : ∀ (l : List Rv) (ss : List Sl) (hs : ss.length = l.length) (k : Nat) (h : k < l.length), (rc l ss)[k * 3]? = some (.int .i64 l[k].1) ∧ (rc l ss)[k * 3 + 1]? = some (.int .i64 l[k].2.1) ∧
    (rc l ss)[k * 3 + 2]? = some (.slice (ss[k]'(by omega)).1 (ss[k]'(by omega)).2.1 (ss[k]'(by omega)).2.2)
  | [], _, _, k, h => absurd h (by simp)
  | _ :: _, [], h, _, _ => by simp at h
  | r :: l, s :: ss, hs, 0, h => ⟨rfl, rfl, rfl⟩
  | r :: l, s :: ss, hs, k + 1, h => by
    have := rc_at l ss (by simpa using hs) k (by simpa using h)
    have e (j : Nat) : (rc (r :: l) (s :: ss))[(k + 1) * 3 + j]? = (rc l ss)[k * 3 + j]? := by
      simp only [rc]
      rw [List.getElem?_append_right (by simp [rvcells]; omega)]
      congr 1
      simp [rvcells]; omega
    have e0 := e 0
    simp only [Nat.add_zero] at e0
    rw [e0, e 1, e 2]
    exact this
/-- the slice reads as the history -/
def RdR (w : World) (B : Nat) (A : Option Addr) (n c : Nat) (l : List Rv) : Prop :=
  n = l.length ∧ ∃ ss : List Sl, ∃ hs : ss.length = l.length, Rd w B 3 A n c (rc l ss) ∧ ∀ k (h : k < l.length), RdP w B (ss[k]'(by omega)).1 (ss[k]'(by omega)).2.1 (ss[k]'(by omega)).2.2 l[k].2.2
section
variable {w w' : World} {B B' n c : Nat} {A : Option Addr} {l : List Rv}
theorem RdR.at_ (h : RdR w B A n c l) (k : Nat) (hk : k < n) :
    ∃ b o A1 n1 c1, A = some ⟨b, o, none⟩ ∧ b < B ∧ w.cell? ⟨b, o + k * 3, none⟩ = some (.int .i64 (l[k]'(by have := h.1; omega)).1) ∧ w.cell? ⟨b, o + k * 3 + 1, none⟩ = some (.int .i64 (l[k]'(by have := h.1; omega)).2.1) ∧
      w.cell? ⟨b, o + k * 3 + 2, none⟩ = some (.slice A1 n1 c1) ∧ RdP w B A1 n1 c1 (l[k]'(by have := h.1; omega)).2.2 := by
  obtain ⟨h0, ss, hs, hr, hp⟩ := h
  obtain ⟨b, o, e, hb, hc⟩ := hr.2.2.2 (by omega)
  obtain ⟨h1, h2, h3⟩ := rc_at l ss hs k (by omega)
  refine ⟨b, o, _, _, _, e, hb, hc _ _ h1, ?_, ?_, hp k (by omega)⟩
  · have := hc _ _ h2; rwa [← Nat.add_assoc] at this
  · have := hc _ _ h3; rwa [← Nat.add_assoc] at this
theorem RdR.below (h : RdR w B A n c l) (hb : Below B w w') : RdR w' B A n c l := by
  obtain ⟨h0, ss, hs, hr, hp⟩ := h
  exact ⟨h0, ss, hs, hr.below hb, fun k hk => (hp k hk).below hb⟩
theorem RdR.more (h : RdR w B A n c l) (hB : B ≤ B') : RdR w B' A n c l := by
  obtain ⟨h0, ss, hs, hr, hp⟩ := h
  exact ⟨h0, ss, hs, hr.more hB, fun k hk => (hp k hk).more hB⟩
theorem RdR.step (h : RdR w w.heap.size A n c l) (hb : Below w.heap.size w w') : RdR w' w'.heap.size A n c l := (h.below hb).more hb.size
theorem RdR.le (h : RdR w B A n c l) : n ≤ 9223372036854775807 := by obtain ⟨h0, ss, hs, hr, hp⟩ := h; have := hr.1; have := hr.2.1; unfold maxLen at this; omega
theorem RdR.caps (h : RdR w B A n c l) : n ≤ c ∧ c ≤ 9223372036854775807 := by obtain ⟨h0, ss, hs, hr, hp⟩ := h; have h1 := hr.1; have h2 := hr.2.1; unfold maxLen at h2; exact ⟨h1, h2⟩
theorem rc_take : ∀ (l : List Rv) (ss : List Sl) (k : Nat), ss.length = l.length → rc (l.take k) (ss.take k) = (rc l ss).take (k * 3)
  | [], [], k, _ => by simp [rc]
  | [], _ :: _, _, h => by simp at h
  | _ :: _, [], _, h => by simp at h
  | r :: l, s :: ss, 0, h => by simp [rc]
  | r :: l, s :: ss, k + 1, h => by
    simp only [List.take_succ_cons, rc]
    rw [rc_take l ss k (by simpa using h), show (k + 1) * 3 = 3 + k * 3 by omega, List.take_append, show (rvcells r s).length = 3 from rfl, show 3 + k * 3 - 3 = k * 3 by omega]
    congr 1
    rw [List.take_of_length_le (by simp [rvcells])]
theorem rc_drop : ∀ (l : List Rv) (ss : List Sl) (k : Nat), ss.length = l.length → rc (l.drop k) (ss.drop k) = (rc l ss).drop (k * 3)
  | [], [], k, _ => by simp [rc]
  | [], _ :: _, _, h => by simp at h
  | _ :: _, [], _, h => by simp at h
  | r :: l, s :: ss, 0, h => by simp [rc]
  | r :: l, s :: ss, k + 1, h => by
    simp only [List.drop_succ_cons, rc]
    rw [rc_drop l ss k (by simpa using h), show (k + 1) * 3 = 3 + k * 3 by omega, ← List.drop_drop]
    congr 1
theorem RdR.drop (h : RdR w B A n c l) (k : Nat) (hk : k ≤ n) (A' : Option Addr) (hA : k < n → ∀ b o, A = some ⟨b, o, none⟩ → A' = some ⟨b, o + k * 3, none⟩) : RdR w B A' (n - k) (c - k) (l.drop k) := by
  obtain ⟨h0, ss, hs, hr, hp⟩ := h
  refine ⟨by rw [List.length_drop]; omega, ss.drop k, by rw [List.length_drop, List.length_drop]; omega, ⟨by have := hr.1; omega, by have := hr.2.1; omega, ?_, fun h1 => ?_⟩, fun j hj => ?_⟩
  · rw [rc_drop l ss k hs, List.length_drop, rc_len l ss hs, h0, Nat.sub_mul]
  · obtain ⟨b, o, e, hb, hc⟩ := hr.2.2.2 (by omega)
    refine ⟨b, o + k * 3, hA (by omega) b o e, hb, fun j u hj => ?_⟩
    rw [rc_drop l ss k hs, List.getElem?_drop] at hj
    have := hc _ u hj
    rwa [← Nat.add_assoc] at this
  · rw [List.length_drop] at hj
    have := hp (k + j) (by omega)
    simpa [List.getElem_drop] using this
end
theorem one_any (a b : Int) (d : List Pt) (A : Option Addr) (n c B : Nat) (r : Int) (w : World) (h : RdP w B A n c d) (hB : B ≤ w.heap.size) (hr : oneE (a, b, d) = r) :
    Calls Try.prog 104 #[.agg #[.int .i64 a, .int .i64 b, .slice A n c]] w fun e w' => e = .returned (.int .i64 r) ∧ Below w.heap.size w w' := by
  have hbb := (Below.refl w.heap.size w).alloc (Nat.le_refl _) (.cells #[.int .i64 a, .int .i64 b, .slice A n c] 27)
  have H := Lib.hid (h.alloc hB (.cells #[.int .i64 a, .int .i64 b, .slice A n c] 27))
  by_cases hbad : a < 0 ∨ 7 < a ∨ b < 0 ∨ 2147483647 < b
  · obtain rfl : r = 1 := by rw [← hr]; unfold oneE; rw [if_pos hbad]
    clear hr h
    rcases (show a < 0 ∨ (0 ≤ a ∧ 7 < a) ∨ (0 ≤ a ∧ a ≤ 7 ∧ b < 0) ∨ (0 ≤ a ∧ a ≤ 7 ∧ 0 ≤ b ∧ 2147483647 < b) by omega) with h1 | ⟨h1, h2⟩ | ⟨h1, h2, h3⟩ | ⟨h1, h2, h3, h4⟩
    all_goals
      clear hbad
      go_enter Try.func104, Try.ntmps104
      go_wp2_with fail
      go_ret
      exact ⟨rfl, hbb⟩
  · obtain rfl : chk d = r := by rw [← hr]; unfold oneE; rw [if_neg hbad]
    have h1 : 0 ≤ a := by omega
    have h2 : a ≤ 7 := by omega
    have h3 : 0 ≤ b := by omega
    have h4 : b ≤ 2147483647 := by omega
    have hBB := hbb.size
    clear hr h hbad
    go_enter Try.func104, Try.ntmps104
    go_wp2_with fail
    refine (chk_any d A n c B _ H.out (by simp; omega)).mono ?_
    rintro e w1 ⟨rfl, hb1⟩
    have hw1 := hbb.trans (hb1.mono hbb.size)
    go_wp2_with fail
    go_ret
    exact ⟨rfl, hw1⟩
/-- a row of strings of the call's own -/
def OwnS (w : World) (B : Nat) (v : Value) (l : List ByteArray) : Prop := w.ownsRow B 9 1 v l.length (l.map .string)
theorem Try.info_string : (Try.prog.info? 9).map (fun i => (i.zero, i.size, i.bytes)) = some (some (.string ⟨#[]⟩), 1, 16) := by kernel_rfl
theorem OwnS.form_ {w : World} {B n : Nat} {v : Value} {l : List ByteArray} (h : OwnS w B v l) (hn : l.length = n) : ∃ A c, v = .slice A n c := by
  subst hn
  rcases h.2 with ⟨rfl, h0⟩ | ⟨g, cap, cur, rfl, _⟩
  · exact ⟨none, 0, by rw [h0]⟩
  · exact ⟨_, _, rfl⟩
theorem wpList_app_strg {ops : Array Oper} {rest : List Oper} {o : Oper} {a : Act} {Q : Exit → Act → World → Prop} (w : World) (hgd : o.guard = none) (s x : Operand)
    (ho : o.op = .call { callee := .builtin .append, args := #[s, x], argTypes := #[60, 60] })
    (B : Nat) (v : Value) (l : List ByteArray) (hs : a.eval s = v) (hown : OwnS w B v l)
    (u : ByteArray) (c : Nat) (hx : a.eval x = .slice (some ⟨w.heap.size, 0, none⟩) 1 c)
    (hn : l.length ≤ 100000000) (hB : B ≤ w.heap.size)
    (h : ∀ v' w', OwnS w' B v' (l ++ [u]) → Below B w w' → w.grownBy w' v.ownBlock → wpList Try.prog ops Q rest (a.put o.dst v') w') :
    wpList Try.prog ops Q (o :: rest) a (w.alloc (.cells #[.string u] 9)) := by
  obtain ⟨i0, hi, hz0, hz1, hz2⟩ := info_parts Try.info_string
  refine wpList_app1 w hgd s x 60 ho B 9 i0 _ 1 16 Try.underlying60 hi hz0 hz1 hz2 rfl (by omega) (by omega) v _ _ hs hown _ c hx rfl (by simp [Value.oneCell']) hn hB ?_
  intro v' w' h1 h2 h3 h4
  exact h v' w' (by unfold OwnS; rw [List.map_append, List.length_append]; exact h1) h2 h3
theorem ownS_one (w : World) (s : ByteArray) (B : Nat) (hB : B ≤ w.heap.size) : OwnS (w.alloc (.cells #[.string s] 9)) B (.slice (some ⟨w.heap.size, 0, none⟩) 1 1) [s] := by
  refine ⟨by simp, .inr ⟨w.heap.size, 1, #[.string s], rfl, hB, heap_alloc_new w _, by simp, by decide, by simp, by simp⟩⟩
theorem texts_large (base : ByteArray) (l : List Rv) (A : Option Addr) (n c B : Nat) (w : World) (h : RdR w B A n c l) (hbs : base.size ≤ 9223372036854775807) (he : 500 < (base.size : Int) ∨ 64 < (n : Int)) :
    Calls Try.prog 81 #[.string base, .slice A n c] w fun e w' => e = .returned (.tuple #[.slice none 0 0, .int .i64 2]) ∧ Below w.heap.size w w' := by
  have hle := h.le
  clear h
  rcases (show 500 < (base.size : Int) ∨ ((base.size : Int) ≤ 500 ∧ 64 < (n : Int)) by omega) with h1 | ⟨h1, h2⟩
  all_goals
    clear he
    go_enter Try.func81, Try.ntmps81
    go_wp2_with fail
    go_ret2
    exact ⟨rfl, Below.refl _ _⟩
theorem texts_any (base : ByteArray) (l : List Rv) (A : Option Addr) (n c B : Nat) (w : World) (h : RdR w B A n c l) (hB : B ≤ w.heap.size) (hbs : base.size ≤ 9223372036854775807) :
    Calls Try.prog 81 #[.string base, .slice A n c] w fun e w' => ∃ A1 n1 c1, e = .returned (.tuple #[.slice A1 n1 c1, .int .i64 (txE base l)]) ∧ (txE base l = 0 → OwnS w' w.heap.size (.slice A1 n1 c1) (txs base l)) ∧ Below w.heap.size w w' := by
  by_cases hlarge : 500 < (base.size : Int) ∨ 64 < (n : Int)
  · have e2 : txE base l = 2 := by unfold txE; rw [if_pos (by have := h.1; omega)]
    rw [e2]
    refine (texts_large base l A n c B w h hbs hlarge).mono ?_
    rintro e w' ⟨rfl, hb⟩
    exact ⟨_, _, _, rfl, fun h => absurd h (by decide), hb⟩
  have hb5 : (base.size : Int) ≤ 500 := by omega
  have hn64 : (n : Int) ≤ 64 := by omega
  have e0 : txE base l = txr base l := by unfold txE; rw [if_neg (by have := h.1; omega)]
  rw [e0]
  obtain ⟨E, hE⟩ : ∃ E, txr base l = E := ⟨_, rfl⟩
  rw [hE]
  have H := Lib.hid h
  obtain ⟨T, hT⟩ : ∃ T, txs base l = T := ⟨_, rfl⟩
  rw [hT]
  have Hst : Hid (txr base (l.drop 0) = E ∧ ([] : List ByteArray) ++ txs base (l.drop 0) = T) := Lib.hid ⟨hE, hT⟩
  clear h hlarge e0 hE hT
  have hbb := (Below.refl w.heap.size w).alloc (Nat.le_refl _) (.cells #[.string base] 9)
  have Hown := Lib.hid (ownS_one w base w.heap.size (Nat.le_refl _))
  go_enter Try.func81, Try.ntmps81
  go_wp2_with fail
  go_loopw [6, 8, 9, 10, 11, 24] (fun ov pv e1 sv e2 i wr => ∃ (k m c1 : Nat) (g : Nat) (pre : List ByteArray) (last : ByteArray), k ≤ n ∧ i = .int .i64 k ∧ m = k + 1 ∧ ov = .slice (some ⟨g, 0, none⟩) m c1 ∧ last.size ≤ 500 ∧ pre.length = k ∧ Hid (OwnS wr w.heap.size (.slice (some ⟨g, 0, none⟩) m c1) (pre ++ [last])) ∧ Hid (txr last (l.drop k) = E ∧ pre ++ txs last (l.drop k) = T) ∧ Below w.heap.size w wr) (fun _ _ _ _ _ i _ => n - (intOf i).toNat)
  case atStart => exact ⟨0, 1, 1, _, [], base, by omega, rfl, rfl, rfl, by omega, rfl, Hown, Hst, hbb⟩
  case round =>
    obtain ⟨k, m, c1, g, pre, last, hk, rfl, hm, rfl, hl5, hpl, hown, hst, hbw⟩ := hrel
    have Hm := Lib.hid hm
    clear hm
    by_cases hlt : k < n
    · have hkl : k < l.length := by have := H.out.1; omega
      obtain ⟨b, o, A1, n1, d1, rfl, hb, c0, c1_, c2, hrd⟩ := (H.out.below (hbw.mono hB)).at_ k hlt
      have hdr : l.drop k = l[k] :: l.drop (k + 1) := List.drop_eq_getElem_cons hkl
      rw [hdr] at hst
      have hstep := Lib.hid (txr_step hst.out.1)
      obtain ⟨r, hr⟩ : ∃ r, r = l[k] := ⟨_, rfl⟩
      rw [← hr] at hst hstep c0 c1_ hrd
      clear hr hdr
      obtain ⟨ra, rb, d⟩ := r
      simp only at c0 c1_ c2 hrd hstep
      have Hrd := Lib.hid hrd
      have hk0 : (0 : Int) ≤ (k : Int) := by omega
      have hkn : (k : Int) < (n : Int) := by omega
      have hgl : b < wr.heap.size := by have := hbw.size; omega
      have hw1 := hbw.alloc hbw.size (.cells #[.int .i64 ra, .int .i64 rb, .slice A1 n1 d1] 27)
      have hpb := Blk.new wr 27 #[.int .i64 ra, .int .i64 rb, .slice A1 n1 d1]
      have Hpb := Lib.hid hpb
      have hown1 := Lib.hid (World.ownsRow.alloc hown.out (.cells #[.int .i64 ra, .int .i64 rb, .slice A1 n1 d1] 27))
      obtain ⟨q, hq⟩ : ∃ q, oneE (ra, rb, d) = q := ⟨_, rfl⟩
      have Hq := Lib.hid hq
      have hcall := one_any ra rb d A1 n1 d1 B q (wr.alloc (.cells #[.int .i64 ra, .int .i64 rb, .slice A1 n1 d1] 27)) (hrd.alloc (by have := hbw.size; omega) _) (by have := hw1.size; omega) hq
      have Hcall := Lib.hid hcall
      clear hpb hq hcall hrd
      go_wp2_with fail
      refine Hcall.out.mono ?_
      rintro e w2 ⟨rfl, hb2⟩
      have hw2 := hw1.trans (hb2.mono hw1.size)
      have hpb2 := Hpb.out.below hb2 Hpb.out.lt
      have Hrd2 : Hid (RdP w2 B A1 n1 d1 d) := Lib.hid ((Hrd.out.alloc (by have := hbw.size; omega) _).below (hb2.mono (by have := hw1.size; omega)))
      have hown2 : OwnS w2 w.heap.size (.slice (some ⟨g, 0, none⟩) m c1) (pre ++ [last]) := own_below hown1.out hb2
      clear hb2
      by_cases hq0 : q = 0
      · subst hq0
        have hp2 := hpb2.cell 2
        have lp2 := hpb2.lt
        have hlen : (pre ++ [last]).length = m := by have := Hm.out; rw [List.length_append, List.length_singleton]; omega
        have hcl : w2.cell? ⟨g, k, none⟩ = some (.string last) := by
          have h1 := hown2
          unfold OwnS at h1
          rw [hlen] at h1
          rw [World.ownsRow.cellAt h1 k (by have := Hm.out; omega)]
          rw [List.map_append, List.getElem?_append_right (by simp; omega)]
          simp [hpl]
        have hgw : g < w2.heap.size := own_lt hown2 g rfl
        have Hown2 := Lib.hid hown2
        have hsz2 := hw2.size
        have hp2' : w2.cell? ⟨wr.heap.size, 2, none⟩ = some (.slice A1 n1 d1) := hp2
        have hB2 : B ≤ w2.heap.size := by omega
        have hdo : ∀ w', (Below w2.heap.size w2 w' ∧ w'.cell? ⟨wr.heap.size, 2, none⟩ = some (.slice A1 n1 d1) ∧ w'.cell? ⟨g, k, none⟩ = some (.string last)) →
            Calls Try.prog 47 #[.slice A1 n1 d1, .string last] w' fun e w'' => e = .returned (.tuple #[.string (doS d last), .int .i64 (doE d last)]) ∧ (Below w2.heap.size w2 w'' ∧ w''.cell? ⟨wr.heap.size, 2, none⟩ = some (.slice A1 n1 d1) ∧ w''.cell? ⟨g, k, none⟩ = some (.string last)) := by
          rintro w' ⟨q1, q2, q3⟩
          refine (do_any d A1 n1 d1 B last w' (Hrd2.out.below (q1.mono hB2)) (by have := q1.size; omega) (by omega)).mono ?_
          rintro e w'' ⟨rfl, hb⟩
          have := q1.size
          exact ⟨rfl, q1.trans (hb.mono (by omega)), (hb.cell (by show wr.heap.size < _; omega)).trans q2, (hb.cell (by show g < _; omega)).trans q3⟩
        have Hdo := Lib.hid hdo
        have hwr : IntKind.i64.wrap ((m : Int) - 1) = (k : Int) := by rw [show (m : Int) - 1 = (k : Int) by have := Hm.out; omega]; exact IntWalk.i64_in _ (by omega)
        have hkm : (k : Int) < (m : Int) := by have := Hm.out; omega
        have htn : ((k : Int)).toNat = k := by omega
        have hds := do_size_any d last
        clear hown2 hpb2 hdo hp2
        go_wp2_with fail
        go_region_held3 (fun w' => Below w2.heap.size w2 w' ∧ w'.cell? ⟨wr.heap.size, 2, none⟩ = some (.slice A1 n1 d1) ∧ w'.cell? ⟨g, k, none⟩ = some (.string last)) (first | assumption | exact ⟨Below.drew (Below.refl _ _), by assumption, by assumption⟩)
          ((first | (go_at_call 47; refine (Hdo.out _ (by assumption)).mono ?_; rintro e w9 ⟨rfl, hb9⟩)))
        all_goals
          have hS9 : Below w2.heap.size w2 w9 := And.left (by assumption)
          have hw9 := hw2.trans (hS9.mono hw2.size)
          have hown9 : OwnS w9 w.heap.size (.slice (some ⟨g, 0, none⟩) m c1) (pre ++ [last]) := own_below Hown2.out hS9
          have Hown9 := Lib.hid hown9
          clear hown9
          obtain ⟨z, hz⟩ : ∃ z, doE d last = z := ⟨_, rfl⟩
          by_cases hz0 : z = 0
          · subst hz0
            have hE2 := hstep.out.2.2 Hq.out hz
            have hT2 : (pre ++ [last]) ++ txs (doS d last) (l.drop (k + 1)) = T := by
              have := hst.out.2
              rw [List.append_assoc]; exact this
            have HE2 := Lib.hid hE2
            have HT2 := Lib.hid hT2
            rw [hz]
            have hl1 : (pre ++ [last]).length ≤ 100000000 := by have := Hm.out; omega
            have hsz9 := hw9.size
            clear hE2 hT2 hstep hst hz Hown2
            go_wp2_with (first | (at_builtin; refine wpList_app_strg _ rfl (.tmp 48) (.tmp 50) rfl w.heap.size _ (pre ++ [last]) rfl Hown9.out (doS d last) 1 rfl hl1 hsz9 ?_; intro v3 w3 g1 g2 g3; obtain ⟨A3, c3, rfl⟩ := g1.form_ (n := m + 1) (by rw [List.length_append, hlen, List.length_singleton])))
            have hg3 : ∃ g', A3 = some ⟨g', 0, none⟩ := by
              rcases g1.2 with ⟨hv, h0⟩ | ⟨g', cap, cur, hv, _⟩
              · rw [List.length_append, List.length_singleton] at h0; omega
              · injection hv with h1 h2 h3; exact ⟨g', h1⟩
            obtain ⟨g', rfl⟩ := hg3
            have hw3 := hw9.trans g2
            have Hg1 := Lib.hid g1
            clear g1 g2 g3
            go_wp2_with fail
            go_roundw
            case rel => exact ⟨k + 1, m + 1, c3, g', pre ++ [last], doS d last, by omega, by go_num, by have := Hm.out; omega, rfl, hds, by rw [List.length_append, List.length_singleton]; omega, Hg1, Lib.hid ⟨HE2.out, HT2.out⟩, hw3⟩
            case measure => simp [intOf]; omega
          · have hE2 : E = z := by rw [hstep.out.2.1 Hq.out (by rw [hz]; exact hz0)]; exact hz
            have hz1 : (z != 0) = true := by simpa using hz0
            rw [hz]
            subst hE2
            have Hz0 := Lib.hid hz0
            clear hz0 hz
            go_wp2_with fail
            go_ret2
            exact ⟨_, _, _, rfl, fun h => absurd h Hz0.out, hw9⟩
      · have hE2 : E = q := by rw [hstep.out.1 (by rw [Hq.out]; exact hq0)]; exact Hq.out
        have hq1 : (q != 0) = true := by simpa using hq0
        subst hE2
        have Hq0 := Lib.hid hq0
        clear hq0 hpb2 hown2
        go_wp2_with fail
        go_ret2
        exact ⟨_, _, _, rfl, fun h => absurd h Hq0.out, hw2⟩
    · have hfin : E = 0 ∧ pre ++ [last] = T := by
        have h1 := hst.out
        rw [List.drop_eq_nil_of_le (by have := H.out.1; omega)] at h1
        exact ⟨h1.1.symm, h1.2⟩
      obtain ⟨rfl, rfl⟩ := hfin
      go_wp2_with fail
      go_ret2
      exact ⟨_, _, _, rfl, (by first | exact hown.out | exact fun _ => hown.out), hbw⟩
theorem rtext_good (base : ByteArray) (l : List Rv) (A : Option Addr) (n c B : Nat) (k : Nat) (w : World) (h : RdR w B A n c l) (hB : B ≤ w.heap.size) (he : txE base l = 0) (hk : k ≤ l.length) :
    Calls Try.prog 35 #[.string base, .slice A n c, .int .i64 k] w fun e w' => e = .returned (.tuple #[.string (txt base l k), .int .i64 0]) ∧ Below w.heap.size w w' := by
  have hp := txE_parts he
  have hc := texts_any base l A n c B w h hB (by omega)
  rw [he] at hc
  have Hc := Lib.hid hc
  have hn : n = l.length := h.1
  have hkn : (k : Int) ≤ (n : Int) := by omega
  have hk0 : (0 : Int) ≤ (k : Int) := by omega
  have hat := txs_at l base k hk
  have hlen := txs_len l base
  have hn64 : (n : Int) ≤ 64 := by omega
  obtain ⟨t, ht⟩ : ∃ t, txt base l k = t := ⟨_, rfl⟩
  rw [ht] at hat ⊢
  have Hat := Lib.hid hat
  have Hlen := Lib.hid (show (txs base l).length = n + 1 by omega)
  have hkd : decide (n < k) = false := by simp; omega
  clear hc h he hp hat hlen hn ht hk
  go_enter Try.func35, Try.ntmps35
  go_wp2_with fail
  refine Hc.out.mono ?_
  rintro e w1 ⟨A1, n1, c1, rfl, hown, hb⟩
  have ho := hown trivial
  unfold OwnS at ho
  rw [Hlen.out] at ho
  have hnn : n1 = n + 1 ∧ ∃ g, A1 = some ⟨g, 0, none⟩ := by
    rcases ho.2 with ⟨hv, h0⟩ | ⟨g', cap, cur, hv, _⟩
    · omega
    · injection hv with h1 h2 h3; exact ⟨h2, g', h1⟩
  obtain ⟨rfl, g, rfl⟩ := hnn
  have hcl : w1.cell? ⟨g, k, none⟩ = some (.string t) := by
    rw [World.ownsRow.cellAt ho k (by omega), List.getElem?_map, Hat.out]
    rfl
  have hkn2 : (k : Int) < (n : Int) + 1 := by omega
  clear hown ho
  go_wp2_with fail
  go_ret2
  exact ⟨rfl, hb⟩
end Go.Proofs.Ytmnnaemcjmiplaa
namespace Go.Proofs.Ytmnnaemcjmiplaa
open Go.ChangeShapes Go.WideShapes Go.RowKit
set_option linter.unusedVariables false
set_option linter.unusedSimpArgs false
set_option maxRecDepth 100000
set_option maxHeartbeats 4000000

/-- the bytes of a number: seven bits a byte, the lowest first -/
def vi (n : Nat) : List UInt8 :=
  if n < 128 then [UInt8.ofNat n] else UInt8.ofNat (n % 128 + 128) :: vi (n / 128)

theorem vi_lt (n : Nat) (h : n < 128) : vi n = [UInt8.ofNat n] := by rw [vi, if_pos h]
theorem vi_ge (n : Nat) (h : 128 ≤ n) : vi n = UInt8.ofNat (n % 128 + 128) :: vi (n / 128) := by rw [vi, if_neg (by omega)]
theorem vi_len (k : Nat) : ∀ n : Nat, n < 128 ^ k → 0 < k → (vi n).length ≤ k := by
  induction k with
  | zero => intro n _ h; omega
  | succ k ih =>
    intro n h _
    by_cases h1 : n < 128
    · rw [vi_lt n h1]; simp
    · rw [vi_ge n (by omega)]
      have : n / 128 < 128 ^ k := by rw [Nat.pow_succ] at h; omega
      have h2 : 0 < k := by
        rcases Nat.eq_zero_or_pos k with h0 | h0
        · subst h0; simp at this; omega
        · exact h0
      have := ih (n / 128) this h2
      simp; omega
theorem vi_pos (n : Nat) : 0 < (vi n).length := by
  by_cases h1 : n < 128
  · rw [vi_lt n h1]; simp
  · rw [vi_ge n (by omega)]; simp

theorem or128 (k : Nat) (h : k < 256) : bits BinOp.or IntKind.u8 (k : Int) 128 = ((k % 128 + 128 : Nat) : Int) := by
  have : ∀ k : Fin 256, bits BinOp.or IntKind.u8 (k.val : Int) 128 = ((k.val % 128 + 128 : Nat) : Int) := by decide +kernel
  exact this ⟨k, h⟩
theorem or128' (m : Nat) : Value.int IntKind.u8 (bits BinOp.or IntKind.u8 ((m : Int) % 256) 128) = u8v (UInt8.ofNat (m % 128 + 128)) := by
  rw [show ((m : Int) % 256) = ((m % 256 : Nat) : Int) by omega, or128 _ (by omega)]
  unfold u8v
  congr 1
  simp [UInt8.toNat_ofNat']
  omega
theorem u8v_of (m : Nat) (h : m < 256) : u8v (UInt8.ofNat m) = .int .u8 m := by
  unfold u8v
  congr 1
  simp [UInt8.toNat_ofNat']
  omega

theorem put_bad (n : Int) (w : World) (h : n < 0 ∨ 2147483647 < n) :
    Calls Try.prog 121 #[.int .i64 n] w fun e w' => e = .returned (.tuple #[.string ⟨#[]⟩, .int .i64 1]) ∧ w = w' := by
  by_cases h0 : n < 0
  · go_enter Try.func121, Try.ntmps121
    go_wp2
    go_ret2
    exact ⟨rfl, rfl⟩
  · have h1 : 2147483647 < n := by omega
    go_enter Try.func121, Try.ntmps121
    go_wp2
    go_ret2
    exact ⟨rfl, rfl⟩

theorem put_good (n : Nat) (w : World) (h : (n : Int) ≤ 2147483647) :
    Calls Try.prog 121 #[.int .i64 n] w fun e w' => e = .returned (.tuple #[.string ⟨(vi n).toArray⟩, .int .i64 0]) ∧ Below w.heap.size w w' := by
  have hl := vi_len 5 n (by omega) (by omega)
  go_enter Try.func121, Try.ntmps121
  go_wp2_with fail
  go_loopw [0, 4] (fun n' v wr => ∃ (m : Nat) (acc : List UInt8), n' = .int .i64 m ∧ (m : Int) ≤ 2147483647 ∧ Hid (acc ++ vi m = vi n) ∧ acc.length ≤ 5 ∧ OwnU8 wr w.heap.size v acc ∧ Below w.heap.size w wr)
    (fun n' _ _ => (intOf n').toNat)
  case atStart => exact ⟨n, [], rfl, h, Lib.hid rfl, by simp, OwnU8.nil _ _, Below.refl _ _⟩
  case round =>
    obtain ⟨m, acc, rfl, hm, hv, hacc, hown, hbel⟩ := hrel
    have hB := hbel.size
    by_cases hlt : (m : Int) < 128
    · go_wp2_with (first | (at_builtin; refine wpList_app_u8 _ rfl (.tmp 21) (.tmp 24) rfl w.heap.size _ acc rfl hown _ _ rfl (UInt8.ofNat m) ?_ (by omega) hB ?_; rotate_left; intro v1 w1 hown1 hb1 _ _; have hcv := run_string_own hown1))
      · go_ret2
        refine ⟨?_, hbel.trans hb1⟩
        rw [← hv.out, vi_lt m (by omega)]
        rfl
      · exact (u8v_of m (by omega)).symm
    · go_wp2_with (first | (at_builtin; refine wpList_app_u8 _ rfl (.tmp 13) (.tmp 17) rfl w.heap.size _ acc rfl hown _ _ rfl (UInt8.ofNat (m % 128 + 128)) ?_ (by omega) hB ?_; rotate_left; intro v1 w1 hown1 hb1 _ _))
      · have hc : Hid ((acc ++ [UInt8.ofNat (m % 128 + 128)]) ++ vi (m / 128) = vi n) := by
          have := hv.out
          rw [vi_ge m (by omega)] at this
          exact Lib.hid (by simpa using this)
        have hlen : (acc ++ [UInt8.ofNat (m % 128 + 128)]).length ≤ 5 := by
          have h1 := congrArg List.length hc.out
          have h2 := vi_pos (m / 128)
          simp only [List.length_append] at h1 ⊢
          omega
        go_roundw
        case rel => exact ⟨m / 128, _, by go_num, by omega, hc, hlen, hown1, hbel.trans hb1⟩
        case measure => simp [intOf]; omega
      · simpa using or128' m
end Go.Proofs.Ytmnnaemcjmiplaa
namespace Go.Proofs.Ytmnnaemcjmiplaa
open Go.ChangeShapes Go.WideShapes Go.RowKit
set_option linter.unusedVariables false
set_option linter.unusedSimpArgs false
set_option maxRecDepth 100000
set_option maxHeartbeats 4000000

/-- a number read from bytes, at place i, n read already: the number, how many bytes, what went wrong -/
def gn : List UInt8 → Nat → Nat → Nat × Nat × Nat
  | [], _, _ => (0, 0, 5)
  | c :: r, i, n =>
    let n' := n + c.toNat % 128 * 2 ^ (7 * i)
    if c.toNat < 128 then (if (c.toNat = 0 ∧ 0 < i) ∨ 2147483647 < n' then (0, 0, 3) else (n', i + 1, 0))
    else if i = 4 then (0, 0, 3) else gn r (i + 1) n'

end Go.Proofs.Ytmnnaemcjmiplaa
namespace Go.Proofs.Ytmnnaemcjmiplaa
open Go.ChangeShapes Go.WideShapes Go.RowKit
set_option linter.unusedVariables false
set_option linter.unusedSimpArgs false
set_option maxRecDepth 100000

end Go.Proofs.Ytmnnaemcjmiplaa
namespace Go.Proofs.Ytmnnaemcjmiplaa
set_option linter.unusedVariables false
set_option linter.unusedSimpArgs false
set_option maxRecDepth 100000

def wrP (p : Pt) : List UInt8 := if p.1 = 2 then vi (4 * p.2.2.size + 2) ++ p.2.2.data.toList else vi (4 * p.2.1.toNat + p.1.toNat)
def wrL (l : List Pt) : List UInt8 := vi l.length ++ l.flatMap wrP
end Go.Proofs.Ytmnnaemcjmiplaa
namespace Go.Proofs.Ytmnnaemcjmiplaa
open Go.ChangeShapes Go.WideShapes Go.RowKit
set_option linter.unusedVariables false
set_option linter.unusedSimpArgs false
set_option maxRecDepth 100000
set_option maxHeartbeats 4000000

abbrev Tb := List (Int × Int)
structure Lg where
  gen : Int
  base : Int
  text : ByteArray
  first : Tb
  table : Tb
  revs : List Rv
  whole : Bool
  good : Int
def tc (t : Tb) : List Value := t.flatMap fun p => [.int .i64 p.1, .int .i64 p.2]
theorem tc_len : ∀ t : Tb, (tc t).length = t.length * 2
  | [] => rfl
  | p :: t => by have := tc_len t; simp only [tc, List.flatMap_cons, List.length_append, List.length_cons, List.length_nil] at this ⊢; omega
theorem tc_cons (p : Int × Int) (t : Tb) : tc (p :: t) = .int .i64 p.1 :: .int .i64 p.2 :: tc t := rfl
theorem tc_at : ∀ (t : Tb) (i : Nat) (h : i < t.length), (tc t)[i * 2]? = some (.int .i64 t[i].1) ∧ (tc t)[i * 2 + 1]? = some (.int .i64 t[i].2)
  | [], i, h => by simp at h
  | p :: t, 0, h => ⟨rfl, rfl⟩
  | p :: t, i + 1, h => by
    have := tc_at t i (by simpa using h)
    rw [tc_cons, show (i + 1) * 2 = i * 2 + 1 + 1 by omega]
    exact this
theorem tc_set : ∀ (t : Tb) (i : Nat) (a b : Int), ((tc t).set (i * 2) (.int .i64 a)).set (i * 2 + 1) (.int .i64 b) = tc (t.set i (a, b))
  | [], i, a, b => by simp [tc]
  | p :: t, 0, a, b => rfl
  | p :: t, i + 1, a, b => by
    rw [tc_cons, show (i + 1) * 2 = i * 2 + 1 + 1 by omega]
    simp only [List.set_cons_succ]
    rw [tc_set t i a b]
    rfl
def lgl (l : Lg) (s : Sl) : List Value := [.int .i64 l.gen, .int .i64 l.base, .string l.text] ++ (tc l.first ++ (tc l.table ++ [.slice s.1 s.2.1 s.2.2, .bool l.whole, .int .i64 l.good]))
def lgc (l : Lg) (s : Sl) : Array Value := (lgl l s).toArray
/-- both tables have eight rows -/
def Lg8 (l : Lg) : Prop := l.first.length = 8 ∧ l.table.length = 8
section
variable {l : Lg} {s : Sl}
theorem lgl_len (h : Lg8 l) : (lgl l s).length = 38 := by simp [lgl, tc_len, h.1, h.2]
theorem lgc_size (h : Lg8 l) : (lgc l s).size = 38 := by simp [lgc, lgl_len h]
theorem lgc_at (i : Nat) : (lgc l s)[i]? = (lgl l s)[i]? := by simp [lgc]
theorem lgc_base : (lgc l s)[1]? = some (.int .i64 l.base) := rfl
theorem lgc_text : (lgc l s)[2]? = some (.string l.text) := rfl
theorem lgl_tail (h : Lg8 l) (i : Nat) : (lgl l s)[35 + i]? = ([.slice s.1 s.2.1 s.2.2, .bool l.whole, .int .i64 l.good] : List Value)[i]? := by
  unfold lgl
  rw [List.getElem?_append_right (by simp; omega), List.getElem?_append_right (by simp [tc_len, h.1]; omega), List.getElem?_append_right (by simp [tc_len, h.1, h.2]; omega)]
  congr 1
  simp [tc_len, h.1, h.2]
  omega
theorem lgc_revs (h : Lg8 l) : (lgc l s)[35]? = some (.slice s.1 s.2.1 s.2.2) := by rw [lgc_at]; exact lgl_tail h 0
theorem lgl_first (h : Lg8 l) (i : Nat) (hi : i < 16) : (lgl l s)[3 + i]? = (tc l.first)[i]? := by
  unfold lgl
  rw [List.getElem?_append_right (by simp), List.getElem?_append_left (by simp [tc_len, h.1]; omega)]
  congr 1
  simp
theorem lgl_table (h : Lg8 l) (i : Nat) (hi : i < 16) : (lgl l s)[19 + i]? = (tc l.table)[i]? := by
  unfold lgl
  rw [List.getElem?_append_right (by simp; omega), List.getElem?_append_right (by simp [tc_len, h.1]; omega), List.getElem?_append_left (by simp [tc_len, h.1, h.2]; omega)]
  congr 1
  simp [tc_len, h.1]
  omega
theorem lgc_first (h : Lg8 l) (i : Nat) (hi : i < 8) : (lgc l s)[3 + i * 2]? = some (.int .i64 (l.first[i]'(by have := h.1; omega)).1) ∧ (lgc l s)[3 + i * 2 + 1]? = some (.int .i64 (l.first[i]'(by have := h.1; omega)).2) := by
  have := tc_at l.first i (by have := h.1; omega)
  rw [lgc_at, lgc_at, Nat.add_assoc, lgl_first h _ (by omega), lgl_first h _ (by omega)]
  exact this
theorem lgc_table (h : Lg8 l) (i : Nat) (hi : i < 8) : (lgc l s)[19 + i * 2]? = some (.int .i64 (l.table[i]'(by have := h.2; omega)).1) ∧ (lgc l s)[19 + i * 2 + 1]? = some (.int .i64 (l.table[i]'(by have := h.2; omega)).2) := by
  have := tc_at l.table i (by have := h.2; omega)
  rw [lgc_at, lgc_at, Nat.add_assoc, lgl_table h _ (by omega), lgl_table h _ (by omega)]
  exact this
theorem lgl_set_tail (h : Lg8 l) (i : Nat) (v : Value) : (lgl l s).set (35 + i) v = [.int .i64 l.gen, .int .i64 l.base, .string l.text] ++ (tc l.first ++ (tc l.table ++ ([.slice s.1 s.2.1 s.2.2, .bool l.whole, .int .i64 l.good] : List Value).set i v)) := by
  unfold lgl
  rw [List.set_append_right _ _ (by simp; omega), List.set_append_right _ _ (by simp [tc_len, h.1]; omega), List.set_append_right _ _ (by simp [tc_len, h.1, h.2]; omega)]
  congr 4
  simp [tc_len, h.1, h.2]
  omega
theorem lgc_set_revs (h : Lg8 l) (A : Option Addr) (n c : Nat) : (lgc l s).setIfInBounds 35 (.slice A n c) = lgc l (A, n, c) := by
  simp only [lgc, List.setIfInBounds_toArray]
  rw [show (35 : Nat) = 35 + 0 from rfl, lgl_set_tail h]
  rfl
theorem lgc_set_table (h : Lg8 l) (i : Nat) (hi : i < 8) (a b : Int) : ((lgc l s).setIfInBounds (19 + i * 2) (.int .i64 a)).setIfInBounds (19 + i * 2 + 1) (.int .i64 b) = lgc { l with table := l.table.set i (a, b) } s := by
  simp only [lgc, List.setIfInBounds_toArray]
  unfold lgl
  rw [List.set_append_right _ _ (by simp; omega), List.set_append_right _ _ (by simp; omega), List.set_append_right _ _ (by simp [tc_len, h.1]; omega), List.set_append_right _ _ (by simp [tc_len, h.1]; omega), List.set_append_left _ _ (by simp [tc_len, h.1, h.2]; omega), List.set_append_left _ _ (by simp [tc_len, h.1, h.2]; omega)]
  simp only [List.length_cons, List.length_nil, tc_len, h.1]
  rw [show 19 + i * 2 - (0 + 1 + 1 + 1) - 8 * 2 = i * 2 by omega, show 19 + i * 2 + 1 - (0 + 1 + 1 + 1) - 8 * 2 = i * 2 + 1 by omega, tc_set]
theorem lgc_one (v : Value) (hv : v ∈ lgl l s) : v.oneCell' = true := by
  have ht : ∀ (t : Tb), ∀ u ∈ tc t, u.oneCell' = true := by
    intro t u hu
    unfold tc at hu
    obtain ⟨p, _, hp⟩ := List.mem_flatMap.1 hu
    simp only [List.mem_cons, List.not_mem_nil, or_false] at hp
    rcases hp with rfl | rfl <;> rfl
  unfold lgl at hv
  simp only [List.mem_append, List.mem_cons, List.not_mem_nil, or_false] at hv
  rcases hv with (rfl | rfl | rfl) | h | h | (rfl | rfl | rfl)
  · rfl
  · rfl
  · rfl
  · exact ht _ v h
  · exact ht _ v h
  · rfl
  · rfl
  · rfl
theorem lgc_ones : (lgc l s).all (·.oneCell') = true := Array.all_eq_true_iff_forall_mem.2 fun v hv => lgc_one v (by simpa [lgc] using hv)
end
theorem tabS_info : (Try.prog.info? 53).map (·.size) = some 16 := by kernel_rfl
def tb0 : Tb := List.replicate 8 (0, 0)
def lg0 : Lg := ⟨0, 0, ⟨#[]⟩, tb0, tb0, [], false, 0⟩
theorem lg0_8 : Lg8 lg0 := ⟨rfl, rfl⟩
theorem log_info : (Try.prog.info? 105).map (·.size) = some 38 := by kernel_rfl
end Go.Proofs.Ytmnnaemcjmiplaa
namespace Go.Proofs.Ytmnnaemcjmiplaa
open Go.ChangeShapes Go.WideShapes Go.RowKit
set_option linter.unusedVariables false
set_option linter.unusedSimpArgs false
set_option maxRecDepth 100000
set_option maxHeartbeats 4000000

theorem cput_any (n : Nat) (m : Int) (hm : m = (n : Int)) (z : ByteArray) (hz : (⟨(vi n).toArray⟩ : ByteArray) = z) (h : (n : Int) ≤ 2147483647) (w : World) :
    Calls Try.prog 94 #[.int .i64 m] w fun e w' => e = .returned (.string z) ∧ Below w.heap.size w w' := by
  subst hm
  have hc := put_good n w h
  rw [hz] at hc
  have Hc := Lib.hid hc
  clear hc hz
  go_enter Try.func94, Try.ntmps94
  go_wp2_with fail
  refine Hc.out.mono ?_
  rintro e w1 ⟨rfl, hb⟩
  go_wp2_with fail
  go_ret
  exact ⟨rfl, hb⟩
theorem vi_size (n : Nat) (z : ByteArray) (hz : (⟨(vi n).toArray⟩ : ByteArray) = z) (h : n ≤ 2147483647) : z.size ≤ 5 ∧ z.data.toList = vi n := by
  subst hz
  have := vi_len 5 n (by omega) (by omega)
  exact ⟨by rw [bs_size]; exact this, by simp⟩
theorem cwrite_good (l : List Pt) (A : Option Addr) (n c B : Nat) (w : World) (S : ByteArray) (h : RdP w B A n c l) (hB : B ≤ w.heap.size) (hk : chk l = 0) (hS : S.data.toList = wrL l) :
    Calls Try.prog 59 #[.slice A n c] w fun e w' => e = .returned (.tuple #[.string S, .int .i64 0]) ∧ Below w.heap.size w w' := by
  have H := Lib.hid h
  have Hk := Lib.hid hk
  have HF := Lib.hid (chk_parts hk).2.2.2.2.2
  have hn16 : (n : Int) ≤ 1600 := by have := (chk_parts hk).1; have := h.1; omega
  have HS := Lib.hid hS
  obtain ⟨z0, hz0⟩ : ∃ z, (⟨(vi n).toArray⟩ : ByteArray) = z := ⟨_, rfl⟩
  have hv0 := vi_size n z0 hz0 (by omega)
  have Hz0 := Lib.hid hz0
  have hz5 := hv0.1
  have Hv0 := Lib.hid hv0.2
  clear h hk hS hz0 hv0
  go_enter Try.func59, Try.ntmps59
  go_wp2_with fail
  refine (chk_any l A n c B _ H.out hB).mono ?_
  rintro e w1 ⟨rfl, hb1⟩
  rw [Hk.out]
  go_wp2_with fail
  refine (cput_any n _ rfl z0 Hz0.out (by omega) _).mono ?_
  rintro e w2 ⟨rfl, hb2⟩
  have hw2 := hb1.trans (hb2.mono hb1.size)
  clear hb1 hb2
  go_wp2_with fail
  go_loopw [5, 7, 18] (fun ov pv i wr => ∃ (k : Nat) (acc : ByteArray), k ≤ n ∧ i = .int .i64 k ∧ ov = .string acc ∧ Hid (acc.data.toList = vi n ++ (l.take k).flatMap wrP) ∧ (acc.size : Int) ≤ 5 + 505 * k ∧ Below w.heap.size w wr) (fun _ _ i _ => n - (intOf i).toNat)
  case atStart => exact ⟨0, z0, by omega, rfl, rfl, Lib.hid (by rw [Hv0.out]; simp), by omega, hw2⟩
  case round =>
    obtain ⟨k, acc, hk, rfl, rfl, hacc, hsz, hbw⟩ := hrel
    by_cases hlt : k < n
    · have hkl : k < l.length := by have := H.out.1; omega
      obtain ⟨g, o, rfl, hg, c0, c1, c2⟩ := (H.out.below (hbw.mono hB)).at_ k hlt
      have hbd := fit_bounds _ (HF.out l[k] (List.getElem_mem hkl))
      have hts : Hid ((l.take (k + 1)).flatMap wrP = (l.take k).flatMap wrP ++ wrP l[k]) := Lib.hid (by rw [List.take_succ_eq_append_getElem hkl, List.flatMap_append]; simp)
      obtain ⟨p, hp⟩ : ∃ p, p = l[k] := ⟨_, rfl⟩
      rw [← hp] at hbd hts c0 c1 c2
      clear hp
      obtain ⟨kd, m, t⟩ := p
      simp only at hbd c0 c1 c2
      have hk0 : (0 : Int) ≤ (k : Int) := by omega
      have hkn : (k : Int) < (n : Int) := by omega
      have hgl : g < wr.heap.size := by have := hbw.size; omega
      have hw1 := hbw.alloc hbw.size (.cells #[.int .i64 kd, .int .i64 m, .string t] 81)
      rcases hbd with ⟨hkd, h1, h2, rfl⟩ | ⟨rfl, rfl, h1, h2⟩
      · obtain ⟨q, rfl⟩ := Int.eq_ofNat_of_zero_le (show 0 ≤ m by omega)
        have hkd0 : kd ≠ 2 := by omega
        obtain ⟨y, hy⟩ : ∃ z, (⟨(vi (4 * q + kd.toNat)).toArray⟩ : ByteArray) = z := ⟨_, rfl⟩
        have hvy := vi_size _ y hy (by omega)
        have hy5 := hvy.1
        have hwp : wrP ((kd, (q : Int), emp) : Pt) = vi (4 * q + kd.toNat) := by unfold wrP; rw [if_neg hkd0, Int.toNat_natCast]
        have Hy := Lib.hid hy
        have Hvy := Lib.hid hvy.2
        have Hwp := Lib.hid hwp
        clear hy hvy hwp hkd0
        rcases hkd with rfl | rfl
        all_goals
          go_wp2_with fail
          refine (cput_any _ _ (by omega) y Hy.out (by omega) _).mono ?_
          rintro e w3 ⟨rfl, hb3⟩
          have hw3 := hw1.trans (hb3.mono hw1.size)
          clear hb3
          go_wp2_with fail
          go_roundw
          case rel => exact ⟨k + 1, acc ++ y, by omega, by go_num, rfl, Lib.hid (by rw [bs_append, hacc.out, Hvy.out, hts.out, Hwp.out, List.append_assoc]), by rw [ByteArray.size_append]; omega, hw3⟩
          case measure => simp [intOf]; omega
      · obtain ⟨y, hy⟩ : ∃ z, (⟨(vi (4 * t.size + 2)).toArray⟩ : ByteArray) = z := ⟨_, rfl⟩
        have hvy := vi_size _ y hy (by omega)
        have hy5 := hvy.1
        have hwp : wrP ((2, 0, t) : Pt) = vi (4 * t.size + 2) ++ t.data.toList := by unfold wrP; rw [if_pos rfl]
        have Hy := Lib.hid hy
        have Hvy := Lib.hid hvy.2
        have Hwp := Lib.hid hwp
        clear hy hvy hwp
        have hpb := Blk.new wr 81 #[.int .i64 2, .int .i64 0, .string t]
        have hp2 : (wr.alloc (.cells #[.int .i64 2, .int .i64 0, .string t] 81)).cell? ⟨wr.heap.size, 2, none⟩ = some (.string t) := hpb.cell 2
        have hpl : wr.heap.size < (wr.alloc (.cells #[.int .i64 2, .int .i64 0, .string t] 81)).heap.size := hpb.lt
        go_wp2_with fail
        generalize wr.alloc (.cells #[.int .i64 2, .int .i64 0, .string t] 81) = W1 at *
        have hput : ∀ w', (Below W1.heap.size W1 w' ∧ w'.cell? ⟨wr.heap.size, 2, none⟩ = some (.string t)) →
            Calls Try.prog 94 #[.int .i64 (4 * (t.size : Int) + 2)] w' fun e w'' => e = .returned (.string y) ∧ (Below W1.heap.size W1 w'' ∧ w''.cell? ⟨wr.heap.size, 2, none⟩ = some (.string t)) := by
          rintro w' ⟨q1, q2⟩
          refine (cput_any (4 * t.size + 2) _ (by omega) y Hy.out (by omega) w').mono ?_
          rintro e w'' ⟨rfl, hb⟩
          have := q1.size
          exact ⟨rfl, q1.trans (hb.mono (by omega)), (hb.cell (by show wr.heap.size < _; omega)).trans q2⟩
        have Hput := Lib.hid hput
        have m1 : IntKind.i64.wrap (4 * (t.size : Int)) = 4 * (t.size : Int) := IntWalk.i64_in _ (by omega)
        have m2 : IntKind.i64.wrap (4 * (t.size : Int) + 2) = 4 * (t.size : Int) + 2 := IntWalk.i64_in _ (by omega)
        have hyt : (y ++ t).size = y.size + t.size := ByteArray.size_append ..
        have hbig1 : ¬ 9223372036854775807 < y.size + t.size := by omega
        have hbig2 : ¬ 9223372036854775807 < acc.size + (y.size + t.size) := by omega
        clear hput hpb hpl
        go_region_held3 (fun w' => Below W1.heap.size W1 w' ∧ w'.cell? ⟨wr.heap.size, 2, none⟩ = some (.string t)) (first | assumption | exact ⟨Below.drew (Below.refl _ _), by assumption⟩)
          ((first | (go_at_call 94; refine (Hput.out _ (by assumption)).mono ?_; rintro e w9 ⟨rfl, hb9⟩)))
        all_goals
          have hS9 : Below W1.heap.size W1 w9 := And.left (by assumption)
          have hw9 := hw1.trans (hS9.mono hw1.size)
          go_wp2_with fail
          go_roundw
          case rel => exact ⟨k + 1, acc ++ (y ++ t), by omega, by go_num, rfl, Lib.hid (by rw [bs_append, bs_append, hacc.out, Hvy.out, hts.out, Hwp.out, List.append_assoc]), by rw [ByteArray.size_append, ByteArray.size_append]; omega, hw9⟩
          case measure => simp [intOf]; omega
    · have hfin : acc = S := bs_ext (by
        rw [hacc.out, HS.out, List.take_of_length_le (by have := H.out.1; omega)]
        unfold wrL
        rw [← H.out.1])
      subst hfin
      go_wp2_with fail
      go_ret2
      exact ⟨rfl, hbw⟩
end Go.Proofs.Ytmnnaemcjmiplaa
namespace Go.Proofs.Ytmnnaemcjmiplaa
open Go.ChangeShapes Go.WideShapes Go.RowKit
set_option linter.unusedVariables false
set_option linter.unusedSimpArgs false
set_option maxRecDepth 100000
set_option maxHeartbeats 4000000

end Go.Proofs.Ytmnnaemcjmiplaa
namespace Go.Proofs.Ytmnnaemcjmiplaa
open Go.ChangeShapes Go.WideShapes Go.RowKit
set_option linter.unusedVariables false
set_option linter.unusedSimpArgs false
set_option maxRecDepth 100000
set_option maxHeartbeats 4000000

end Go.Proofs.Ytmnnaemcjmiplaa
namespace Go.Proofs.Ytmnnaemcjmiplaa
open Go.ChangeShapes Go.WideShapes Go.RowKit
set_option linter.unusedVariables false
set_option linter.unusedSimpArgs false
set_option maxRecDepth 100000
set_option maxHeartbeats 4000000

end Go.Proofs.Ytmnnaemcjmiplaa
