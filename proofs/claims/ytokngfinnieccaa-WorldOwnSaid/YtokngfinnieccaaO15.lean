/- The archive with its moves: Add, Keep, Step, Sync keep what always holds (pure). Step, Keep of an archive in memory, whatever its state. Contracts of shop.Sync, shop.Safe, shop.Last. spoil, that more than one may be spoilt; Clone of a list of any size. Two archives beside each other in memory, and blocks that are neither's. The archive of a law: all its blocks have been made since the law began; its methods in these words. Sync, Safe, Last in the laws' words. How many steps a move has still to take, as memory says; Revs of what is not there. Contract of turn.Of. Contracts of undo.Of. -/
import Derived.Test.YtokngfinnieccaaO14
import Derived.Test.YtokngfinnieccaaO6
import Derived.Test.YtokngfinnieccaaO5
import Derived.Test.YtokngfinnieccaaO4
import Derived.Test.YtokngfinnieccaaO10
import Derived.Test.YtokngfinnieccaaO8
namespace Go.Proofs.Ytokngfinnieccaa
open Go.ChangeShapes Go.WideShapes Go.RowKit
set_option linter.unusedVariables false
set_option linter.unusedSimpArgs false
set_option maxRecDepth 100000
set_option maxHeartbeats 4000000
theorem ShI.new : ShI shN none 1 0 tz := by
 refine ⟨⟨⟨rfl, by decide, by decide, by decide, by decide⟩, rfl, rfl, rfl, trivial, rfl, rfl, rfl⟩, by decide, by decide, ⟨[], [], 0, rfl, ?_, Nat.le_refl _, ?_, by decide⟩, .inr ⟨rfl, rfl, rfl⟩, by decide⟩
 · show (hdB 1 0 tz ⟨#[]⟩ ++ doneT).data.toList = flat (SF 1 0 tz ⟨#[]⟩ [] (some []))
   rw [SF_done, flat_app, bs_append, hdB_flat, doneT_flat]
 · show ((hdB 1 0 tz ⟨#[]⟩ ++ doneT).size : Int) = ((flat (SF 1 0 tz ⟨#[]⟩ [] (some []))).length : Nat)
   rw [SF_done, flat_app, ← hdB_flat, ← doneT_flat, ← bs_append]
   rfl
theorem txt_app (l : List Rv) (r : Rv) (s : ByteArray) (k : Nat) (hk : k ≤ l.length) : txt s (l ++ [r]) k = txt s l k := by
 have h := txt_take (l ++ [r]) s l.length k hk
 rw [List.take_left'] at h
 · exact h.symm
 · rfl
theorem CurI.add {x : Slt} {l : Lg} {g b : Nat} {tN : List (Nat × Nat)} {safe : Int} (h : CurI x l g b tN safe) (r : Rv) : CurI (x.1 ++ frB r, x.2) (addL l r) g b tN safe := by
 obtain ⟨r1, r2, j0, e1, e2, e3, e4, e5⟩ := h
 refine ⟨r1, r2 ++ [r], j0, ?_, ?_, ?_, ?_, e5⟩
 · show l.revs ++ [r] = _
   rw [e1, List.append_assoc]
 · show (x.1 ++ frB r).data.toList = flat (SF g b tN l.text r1 (some (r2 ++ [r])))
   rw [SF_snoc2, flat_app, bs_append, e2, frB_flat]
 · simp; omega
 · rw [List.take_append_of_le_length e3]; exact e4
section
variable {s : Sh} {m : Option Mv} {g b : Nat} {tN : List (Nat × Nat)}
theorem ShI.put_ok (h : ShI s m g b tN) (i : Nat) (hi : i ≤ 1) {t : ByteArray} (ht : t.size ≤ 700000) : (slotOf s i).1.size + t.size ≤ 1048576 := by have := (h.sz i hi).1; omega
theorem ShI.look_put (h : ShI s m g b tN) (i j : Nat) (hi : i ≤ 1) (hj : j ≤ 1) {t : ByteArray} (ht : t.size ≤ 5000) : dlook (putS s i t).d0 (putS s i t).d1 (j : Int) = 0 := by
 have hp := fun j hj => slot_put s i j t hi hj (h.put_ok i hi (by omega))
 have key : ∀ j, j ≤ 1 → (slotOf (putS s i t) j).1.size ≤ 310000 ∧ 0 ≤ (slotOf (putS s i t) j).2 ∧ (slotOf (putS s i t) j).2 ≤ ((slotOf (putS s i t) j).1.size : Int) := fun j hj => by
  rw [hp j hj]
  have h1 := h.sz j hj
  have h2 := h.sz i hi
  unfold SzI at h1 h2
  split
  · simp only [ByteArray.size_append]; omega
  · omega
 have k0 := key 0 (by omega)
 have k1 := key 1 (by omega)
 have e0 : sbad (putS s i t).d0 = 0 := sbad_ok (by have := k0.1; show (slotOf (putS s i t) 0).1.size ≤ _; omega) k0.2.1 k0.2.2
 have e1 : sbad (putS s i t).d1 = 0 := sbad_ok (by have := k1.1; show (slotOf (putS s i t) 1).1.size ≤ _; omega) k1.2.1 k1.2.2
 unfold dlook dchk
 rw [e0, e1]
 rw [if_neg (by simp), if_neg (by omega)]
theorem tabK_add {l : Lg} {r : Rv} {k : Nat} (hk : k ≤ l.revs.length) : tabK (addL l r) k = tabK l k := by
 unfold tabK
 show natT (tblF l.base l.first ((l.revs ++ [r]).take k)) = _
 rw [List.take_append_of_le_length hk]
theorem ShI.add (h : ShI s m g b tN) (r : Rv) : ShI (addG s m r) m g b tN := by
 unfold addG
 split
 case isFalse => exact h
 rename_i hn
 have hone := (next_len hn).1
 have hfb := frB_size hone
 have hl := h.log.add hn
 have ha := h.at1
 have hsf : s.safe ≤ (addL s.log r).base + ((addL s.log r).revs.length : Int) := by
  have := h.sf
  show s.safe ≤ s.log.base + ((s.log.revs ++ [r]).length : Int)
  rw [List.length_append, List.length_singleton]
  omega
 have hp := fun j hj => slot_put s s.at_ j (frB r) h.at1 hj (h.put_ok s.at_ h.at1 (by omega))
 split
 · rename_i hwh
   cases m with
   | none => simp [whM] at hwh
   | some v =>
     obtain ⟨fl, cp, wh⟩ := v
     obtain ⟨ho, k, e1, hk, hx⟩ := h.oth
     have hwh : wh = true := hwh
     rcases hx with ⟨_, e, _⟩ | ⟨c, _, e, _⟩ | ⟨c, r1, r2, j0, ec, ec2, ew, d1, d2, d3, d4, d5⟩
     · rw [e] at hwh; cases hwh
     · rw [e] at hwh; cases hwh
     · have hz2 : (slotOf (putS s s.at_ (frB r)) (1 - s.at_)).1.size + (frB r).size ≤ 1048576 := by
        rw [hp (1 - s.at_) (by omega), if_neg (by omega)]
        exact h.put_ok _ (by omega) (by omega)
       have hq := fun j hj => slot_put (putS s s.at_ (frB r)) (1 - s.at_) j (frB r) (by omega) hj hz2
       refine ⟨hl, h.at1, h.g1, ?_, ?_, hsf⟩
       · show CurI (slotOf (putS (putS s s.at_ (frB r)) ((1 - s.at_ : Nat) : Int) (frB r)) s.at_) (addL s.log r) g b tN s.safe
         rw [hq s.at_ h.at1, if_neg (by omega), hp s.at_ h.at1, if_pos rfl]
         exact h.cur.add r
       · show OthI (slotOf (putS (putS s s.at_ (frB r)) ((1 - s.at_ : Nat) : Int) (frB r)) (1 - s.at_)) (addL s.log r) s.safe s.old (some (fl, cp, wh)) g b
         rw [hq _ (by omega), if_pos rfl, hp _ (by omega), if_neg (by omega)]
         refine ⟨ho, k, e1, ?_, .inr (.inr ⟨c, r1, r2 ++ [r], j0, ec, ec2, ew, ?_, ?_, ?_, ?_, d5⟩)⟩
         · show k ≤ (s.log.revs ++ [r]).length
           simp; omega
         · show (s.log.revs ++ [r]).drop k = _
           rw [List.drop_append_of_le_length hk, d1, List.append_assoc]
         · show ((slotOf s (1 - s.at_)).1 ++ frB r).data.toList = flat (SF (g + 1) (b + k) (tabK (addL s.log r) k) (txt s.log.text (s.log.revs ++ [r]) k) r1 (some (r2 ++ [r])))
           rw [tabK_add hk, txt_app _ _ _ _ hk, SF_snoc2, flat_app, bs_append, d2, frB_flat]
         · simp; omega
         · show ((slotOf s (1 - s.at_)).2 = 0 ∧ j0 = 0) ∨ (slotOf s (1 - s.at_)).2 = ((flat (SF (g + 1) (b + k) (tabK (addL s.log r) k) (txt s.log.text (s.log.revs ++ [r]) k) r1 (some ((r2 ++ [r]).take j0)))).length : Nat)
           rw [tabK_add hk, txt_app _ _ _ _ hk, List.take_append_of_le_length d3]
           exact d4
 · rename_i hwh
   refine ⟨hl, h.at1, h.g1, ?_, ?_, hsf⟩
   · show CurI (slotOf (putS s s.at_ (frB r)) s.at_) (addL s.log r) g b tN s.safe
     rw [hp s.at_ h.at1, if_pos rfl]
     exact h.cur.add r
   · show OthI (slotOf (putS s s.at_ (frB r)) (1 - s.at_)) (addL s.log r) s.safe s.old m g b
     rw [hp _ (by omega), if_neg (by omega)]
     have ho := h.oth
     cases m with
     | none => exact ho
     | some v =>
       obtain ⟨fl, cp, wh⟩ := v
       obtain ⟨ho, k, e1, hk, hx⟩ := ho
       refine ⟨ho, k, e1, ?_, ?_⟩
       · show k ≤ (s.log.revs ++ [r]).length
         simp; omega
       · rcases hx with hx | ⟨c, c1, c2, c3, c4, c5⟩ | ⟨c, r1, r2, j0, ec, ec2, ew, _⟩
         · exact .inl hx
         · refine .inr (.inl ⟨c, c1, c2, ?_, ?_, c5⟩)
           · show k + c ≤ (s.log.revs ++ [r]).length
             simp; omega
           · show (slotOf s (1 - s.at_)).1.data.toList = flat (SF (g + 1) (b + k) (tabK (addL s.log r) k) (txt s.log.text (s.log.revs ++ [r]) k) (((s.log.revs ++ [r]).drop k).take c) none)
             rw [tabK_add hk, txt_app _ _ _ _ hk, List.drop_append_of_le_length hk, List.take_append_of_le_length (by rw [List.length_drop]; omega)]
             exact c4
         · exact absurd ew hwh
end
structure ShG (w : World) (F : Nat → Prop) (q : Nat) (s : Sh) (m : Option Mv) (g b : Nat) (tN : List (Nat × Nat)) : Prop where
 mem : ShM w F q s m
 inv : ShI s m g b tN
theorem ShG.below {w w' : World} {F : Nat → Prop} {q : Nat} {s : Sh} {m : Option Mv} {g b : Nat} {tN : List (Nat × Nat)} (h : ShG w F q s m g b tN) (hb : Below w.heap.size w w') : ShG w' F q s m g b tN := ⟨h.mem.below hb, h.inv⟩
theorem sadd_G (q : Nat) (s : Sh) (m : Option Mv) (F : Nat → Prop) (g b : Nat) (tN : List (Nat × Nat)) (a c : Int) (d : List Pt) (A : Option Addr) (n cc : Nat) (w : World) (h : ShG w F q s m g b tN) (hd : RdP w w.heap.size A n cc d) :
 Calls Try.prog 42 #[.pointer (some ⟨q, 0, none⟩), .agg #[.int .i64 a, .int .i64 c, .slice A n cc]] w fun e w' =>
  e = .returned (.tuple #[.int .i64 (if nextE s.log s.text.size (a, c, d) = 0 then s.log.base + (s.log.revs.length + 1 : Nat) else 0), .int .i64 (nextE s.log s.text.size (a, c, d))]) ∧ ShG w' (grow F w w') q (addG s m (a, c, d)) m g b tN ∧ Only w w' F := by
 have ha := h.inv.at1
 refine (sadd_M q s m F a c d A n cc w h.mem h.inv.log.hg ha (h.inv.look _ ha) (fun _ hn => h.inv.look_put s.at_ (1 - s.at_) ha (by omega) (by have := frB_size (next_len hn).1; omega)) hd).mono ?_
 rintro e w' ⟨rfl, hM, oo⟩
 exact ⟨rfl, ⟨hM, h.inv.add _⟩, oo⟩
theorem slast_bad (q : Nat) (s : Sh) (sl : Sl) (mp : Option Addr) (a : Int) (w : World) (hk : Blk w q 134 (shc s sl mp)) (ha : a < 0 ∨ 7 < a) :
 Calls Try.prog 49 #[.pointer (some ⟨q, 0, none⟩), .int .i64 a] w fun e w' => e = .returned (.tuple #[.agg #[.int .i64 0, .int .i64 0], .int .i64 1]) ∧ Below w.heap.size w w' := by
 have lk := hk.lt
 have hb := (Below.refl w.heap.size w).alloc (Nat.le_refl _) (.cells #[.int .i64 0, .int .i64 0] 74)
 by_cases h0 : a < 0
 · have hd : decide (a < 0) = true := decide_eq_true h0
   go_enter Try.func49, Try.ntmps49
   go_wp2_with fail
   exact bodyPost_ret (v := .tuple #[.agg #[.int .i64 0, .int .i64 0], .int .i64 1]) (by simp [results, Try.results49, go_sem]) rfl ⟨rfl, hb⟩
 · have hd : decide (a < 0) = false := decide_eq_false h0
   have hd2 : decide (7 < a) = true := decide_eq_true (by omega)
   go_enter Try.func49, Try.ntmps49
   go_wp2_with fail
   exact bodyPost_ret (v := .tuple #[.agg #[.int .i64 0, .int .i64 0], .int .i64 1]) (by simp [results, Try.results49, go_sem]) rfl ⟨rfl, hb⟩
theorem slast_good (q : Nat) (s : Sh) (sl : Sl) (mp : Option Addr) (x : Nat) (w : World) (hk : Blk w q 134 (shc s sl mp)) (h8 : Lg8 s.log) (hx : x < 8) :
 Calls Try.prog 49 #[.pointer (some ⟨q, 0, none⟩), .int .i64 x] w fun e w' => e = .returned (.tuple #[.agg #[.int .i64 (s.log.table[x]'(by have := h8.2; omega)).1, .int .i64 (s.log.table[x]'(by have := h8.2; omega)).2], .int .i64 0]) ∧ Below w.heap.size w w' := by
 obtain ⟨PP, hPP⟩ : ∃ PP, s.log.table[x]'(by have := h8.2; omega) = PP := ⟨_, rfl⟩
 obtain ⟨t1, t2⟩ := lgc_table (s := sl) h8 x hx
 rw [hPP] at t1 t2 ⊢
 obtain ⟨y0, y1⟩ := PP
 simp only at t1 t2
 have e0 := hk.cell (5 + (19 + x * 2))
 have e1 := hk.cell (5 + (19 + x * 2 + 1))
 rw [shc_log _ (by omega) h8, t1] at e0
 rw [shc_log _ (by omega) h8, t2] at e1
 rw [show 5 + (19 + x * 2) = 24 + x * 2 by omega] at e0
 rw [show 5 + (19 + x * 2 + 1) = 24 + x * 2 + 1 by omega] at e1
 have lk := hk.lt
 have hx0 : (0 : Int) ≤ (x : Int) := by omega
 have hx8 : (x : Int) < 8 := by omega
 have hd : decide ((x : Int) < 0) = false := decide_eq_false (by omega)
 have hd2 : decide ((7 : Int) < (x : Int)) = false := decide_eq_false (by omega)
 have hb := (Below.refl w.heap.size w).alloc (Nat.le_refl _) (.cells #[.int .i64 y0, .int .i64 y1] 74)
 clear t1 t2 hPP
 go_enter Try.func49, Try.ntmps49
 go_wp2_with fail
 exact bodyPost_ret (v := .tuple #[.agg #[.int .i64 y0, .int .i64 y1], .int .i64 0]) (by simp [results, Try.results49, go_sem]) rfl ⟨rfl, hb⟩
theorem spoil_any2 (p : Pt) (g n cap : Nat) (cur : Array Value) (w : World) (hb : Blk w g 88 cur) (hs : cur.size = cap * 3) (hn : n ≤ cap) (hc : cap ≤ maxLen) :
 Calls Try.prog 59 #[.slice (some ⟨g, 0, none⟩) n cap, pval p] w fun e w' => e = .returned (.tuple #[]) ∧ Only w w' (fun k => k = g) ∧ ∃ cs', Blk w' g 88 cs' ∧ cs'.size = cur.size := by
 obtain ⟨kd, m, t⟩ := p
 have hcap : (cap : Int) ≤ 9223372036854775807 := by unfold maxLen at hc; omega
 have hnc : (n : Int) ≤ (cap : Int) := by omega
 have h0 : (0 : Int) ≤ (cap : Int) := by omega
 have Hs := Lib.hid hs
 have Hb := Lib.hid hb
 have hlt := hb.lt
 clear hs hb
 unfold pval
 go_enter Try.func59, Try.ntmps59
 go_wp2_with fail
 have Hx := Lib.hid (Blk.new w 88 #[.int .i64 kd, .int .i64 m, .string t])
 have Hg := Lib.hid (Hb.out.alloc (.cells #[.int .i64 kd, .int .i64 m, .string t] 88))
 have Ho := Lib.hid (Only.alloc (S := fun k => k = g) w (.cells #[.int .i64 kd, .int .i64 m, .string t] 88))
 generalize w.alloc (.cells #[.int .i64 kd, .int .i64 m, .string t] 88) = W at *
 obtain ⟨x, hx⟩ : ∃ x, w.heap.size = x := ⟨_, rfl⟩
 rw [hx] at Hx hlt ⊢
 go_loopw [4, 11] (fun uv iv wr => ∃ (k : Nat) (cs : Array Value), k ≤ cap ∧ iv = .int .i64 k ∧ Hid (cs.size = cap * 3) ∧ Hid (Blk wr g 88 cs) ∧ Hid (Blk wr x 88 #[.int .i64 kd, .int .i64 m, .string t]) ∧ Hid (Only w wr (fun k => k = g))) (fun _ iv _ => cap - (intOf iv).toNat)
 case atStart => exact ⟨0, cur, by omega, rfl, Hs, Hg, Hx, Ho⟩
 case round =>
  obtain ⟨k, cs, hk, rfl, hcs, hgb, hxb, ho⟩ := hrel
  by_cases hlt2 : k < cap
  · have hkc : (k : Int) < (cap : Int) := by omega
    have hk0 : (0 : Int) ≤ (k : Int) := by omega
    have hsz := hcs.out
    have a0 := hgb.out.cell (k * 3)
    have a1 := hgb.out.cell (k * 3 + 1)
    have a2 := hgb.out.cell (k * 3 + 2)
    obtain ⟨v0, e0⟩ : ∃ v, cs[k * 3]? = some v := ⟨cs[k * 3]'(by omega), Array.getElem?_eq_getElem (by omega)⟩
    obtain ⟨v1, e1⟩ : ∃ v, cs[k * 3 + 1]? = some v := ⟨cs[k * 3 + 1]'(by omega), Array.getElem?_eq_getElem (by omega)⟩
    obtain ⟨v2, e2⟩ : ∃ v, cs[k * 3 + 2]? = some v := ⟨cs[k * 3 + 2]'(by omega), Array.getElem?_eq_getElem (by omega)⟩
    rw [e0] at a0
    rw [e1] at a1
    rw [e2] at a2
    have f0 := hgb.out.frozen (k * 3)
    have f1 := hgb.out.frozen (k * 3 + 1)
    have f2 := hgb.out.frozen (k * 3 + 2)
    have x0 := hxb.out.cell 0
    have x1 := hxb.out.cell 1
    have x2 := hxb.out.cell 2
    have hxl := hxb.out.lt
    have hgl := hgb.out.lt
    clear e0 e1 e2 hsz
    have hxg : x ≠ g := by omega
    go_wp2_with fail
    go_roundw
    case rel =>
     refine ⟨k + 1, ((cs.setIfInBounds (k * 3) (.int .i64 kd)).setIfInBounds (k * 3 + 1) (.int .i64 m)).setIfInBounds (k * 3 + 2) (.string t), by omega, by go_num, Lib.hid (by simpa using hcs.out), Lib.hid (((hgb.out.set_ _ _).set_ _ _).set_ _ _), Lib.hid (((hxb.out.far hxg _).far hxg _).far hxg _), Lib.hid (((ho.out.trans (Only.setSelf _ _ _ _)).trans (Only.setSelf _ _ _ _)).trans (Only.setSelf _ _ _ _))⟩
    case measure => simp [intOf]; omega
  · obtain rfl : k = cap := by omega
    go_wp2_with fail
    go_end0
    exact ⟨rfl, ho.out, cs, hgb.out, by rw [hcs.out, Hs.out]⟩
def Spo (w : World) (v : Value) : Prop := v = .slice none 0 0 ∨ ∃ g n cap cs, v = .slice (some ⟨g, 0, none⟩) n cap ∧ n ≤ cap ∧ cap ≤ maxLen ∧ Blk w g 88 cs ∧ cs.size = cap * 3
theorem OwnP.spo {w : World} {B : Nat} {v : Value} {l : List Pt} (h : OwnP w B v l) : Spo w v := by
 rcases h.2 with ⟨rfl, h0⟩ | ⟨g, cap, cur, rfl, hb, hg, hnc, hcm, hcs, htake⟩
 · exact .inl rfl
 · exact .inr ⟨g, l.length, cap, cur, rfl, hnc, hcm, hg, hcs⟩
theorem Spo.below {w w' : World} {v : Value} (h : Spo w v) (hb : Below w.heap.size w w') : Spo w' v := by
 rcases h with rfl | ⟨g, n, cap, cs, rfl, h1, h2, h3, h4⟩
 · exact .inl rfl
 · exact .inr ⟨g, n, cap, cs, rfl, h1, h2, h3.below hb h3.lt, h4⟩
theorem spoil_spo (p : Pt) (v : Value) (w : World) (h : Spo w v) :
 Calls Try.prog 59 #[v, pval p] w fun e w' => e = .returned (.tuple #[]) ∧ Only w w' (fun k => v.ownBlock = some k) ∧ ∀ v', Spo w v' → Spo w' v' := by
 rcases h with rfl | ⟨g, n, cap, cs, rfl, h1, h2, h3, h4⟩
 · refine (spoil_nil p w).mono ?_
   rintro e w' ⟨rfl, hb⟩
   exact ⟨rfl, Only.of_below hb, fun v' h => h.below hb⟩
 · refine (spoil_any2 p g n cap cs w h3 h4 h1 h2).mono ?_
   rintro e w' ⟨rfl, ho, cs', k1, k2⟩
   refine ⟨rfl, ho.mono fun k _ hk => by subst hk; rfl, fun v' h' => ?_⟩
   rcases h' with rfl | ⟨g', n', cap', c', rfl, e1, e2, e3, e4⟩
   · exact .inl rfl
   · by_cases hg : g' = g
     · subst hg
       have : cs = c' := by
        unfold Blk at h3 e3
        rw [h3] at e3
        injection e3 with e3
        injection e3
       subst this
       exact .inr ⟨g', n', cap', cs', rfl, e1, e2, k1, by rw [k2, e4]⟩
     · exact .inr ⟨g', n', cap', c', rfl, e1, e2, e3.only ho hg, e4⟩
theorem Spo.row {w w' : World} {v : Value} (h : Spo w v) (ho : Only w w' (fun k => v.ownBlock = some k)) {B : Nat} {e : TypeId} {size n : Nat} {v' : Value} {xs : List Value} (hr : w.ownsRow B e size v' n xs) (hne : e ≠ 88) : w'.ownsRow B e size v' n xs := by
 refine own_only hr ho fun k hk hk2 => ?_
 rcases h with rfl | ⟨g, n, cap, cs, rfl, h1, h2, h3, h4⟩
 · simp [Value.ownBlock] at hk2
 · have : g = k := by simpa [Value.ownBlock] using hk2
   subst this
   exact own_blk_ne hr h3 hne hk
theorem wpList_app_partsB {ops : Array Oper} {rest : List Oper} {o : Oper} {a : Act} {Q : Exit → Act → World → Prop} (w : World) (hgd : o.guard = none) (s x : Operand)
 (ho : o.op = .call { callee := .builtin .append, args := #[s, x], argTypes := #[25, 25] })
 (B : Nat) (v : Value) (l : List Pt) (hs : a.eval s = v) (hown : OwnP w B v l)
 (A : Option Addr) (m c B' : Nat) (l' : List Pt) (hx : a.eval x = .slice A m c) (hr : RdP w B' A m c l')
 (hn : l.length + m ≤ 4398046511104) (hB : B ≤ w.heap.size)
 (h : ∀ v' w', OwnP w' B v' (l ++ l') → Below B w w' → wpList Try.prog ops Q rest (a.put o.dst v') w') :
 wpList Try.prog ops Q (o :: rest) a w := by
 obtain ⟨i0, hi, hz0, hz1, hz2⟩ := info_parts Try.info_part
 refine wpList_append_any w hgd s x 25 ho B 88 i0 _ 3 32 Try.underlying25 hi hz0 hz1 hz2 rfl (by omega) v _ _ hs hown B' A m c (pc l') hx ?_ ?_ (by simp only [maxLen]; omega) (by omega) hB ?_
 · refine ⟨by rw [pc_len, hr.1], fun h0 => ?_⟩
   obtain ⟨b, o', e, hb, hc⟩ := hr.2.1.2.2.2 h0
   refine ⟨_, e, hb, fun j u hj => ?_⟩
   have := hc j u hj
   by_cases h00 : j = 0
   · subst h00; simpa [Addr.add] using this
   · simpa [Addr.add, h00] using this
 · intro u hu
   unfold pc at hu
   obtain ⟨p, _, hp⟩ := List.mem_flatMap.1 hu
   simp only [pcells, List.mem_cons, List.not_mem_nil, or_false] at hp
   rcases hp with rfl | rfl | rfl <;> rfl
 · intro v' w' h2 h3 h4
   exact h v' w' (by unfold OwnP; rw [pc_append, List.length_append, ← hr.1]; exact h2) (below_grown h3 hB (own_ge hown))
theorem cloneB_some (l : List Pt) (a : Addr) (n c : Nat) (w : World) (h : RdP w w.heap.size (some a) n c l) (hn : n ≤ 4398046511104) :
 Calls Try.prog 58 #[.slice (some a) n c] w fun e w' => ∃ v, e = .returned v ∧ OwnP w' w.heap.size v l ∧ Below w.heap.size w w' := by
 have H := Lib.hid h
 clear h
 go_enter Try.func58, Try.ntmps58
 have hq := eqlP_nil w (some a) n c
 have ho : OwnP (w.alloc (.cells #[] 88)) w.heap.size (.slice (some ⟨w.heap.size, 0, none⟩) 0 0) [] := World.ownsRow_made w #[] 0 (Nat.le_refl _) (by decide) rfl
 have Ho := Lib.hid ho
 have hr := H.out.alloc (Nat.le_refl _) (.cells #[] 88)
 have Hr := Lib.hid hr
 have hB : w.heap.size ≤ (w.alloc (.cells #[] 88)).heap.size := by simp
 have hn0 : ([] : List Pt).length + n ≤ 4398046511104 := by simpa using hn
 clear ho hr
 go_wp2_with (first | (at_builtin; go_loud (refine wpList_app_partsB _ rfl (.tmp 5) (.tmp 6) rfl w.heap.size _ [] rfl Ho.out (some a) n c _ l rfl Hr.out hn0 hB ?_; intro v4 w4 k1 k2)))
 go_ret
 rw [List.nil_append] at k1
 exact ⟨_, rfl, k1, ((Below.refl w.heap.size w).alloc (Nat.le_refl _) _).trans k2⟩
theorem cloneB_any (l : List Pt) (A : Option Addr) (n c : Nat) (w : World) (h : RdP w w.heap.size A n c l) (hn : n ≤ 4398046511104) :
 Calls Try.prog 58 #[.slice A n c] w fun e w' => ∃ v, e = .returned v ∧ OwnP w' w.heap.size v l ∧ Below w.heap.size w w' := by
 cases A with
 | none =>
   have e : l = [] := by
    rw [← List.length_eq_zero_iff, ← h.1]
    by_cases h0 : 0 < n
    · obtain ⟨b, o, e, _⟩ := h.2.1.2.2.2 h0
      cases e
    · omega
   subst e
   refine (cloneP_nil w n c).mono ?_
   rintro e w' ⟨rfl, rfl⟩
   exact ⟨_, rfl, OwnP.nil _ _, Below.refl _ _⟩
 | some a => exact cloneB_some l a n c w h hn

def ShB (w : World) (B q : Nat) (s : Sh) (m : Option Mv) (g : Nat) : Prop := ∃ (b : Nat) (tN : List (Nat × Nat)), ShG w (fun k => B ≤ k ∧ k < w.heap.size) q s m g b tN
section
variable {w w' : World} {B q g : Nat} {s : Sh} {m : Option Mv}
theorem ShB.of {F : Nat → Prop} {b : Nat} {tN : List (Nat × Nat)} (h : ShG w' F q s m g b tN) (hF : ∀ k, F k → B ≤ k) : ShB w' B q s m g :=
 ⟨b, tN, h.mem.mono (fun k hk => ⟨hF k hk, h.mem.lt k hk⟩) (fun k hk => hk.2), h.inv⟩
theorem ShB.hg (h : ShB w B q s m g) : Hg s.log s.text := by obtain ⟨b, tN, h⟩ := h; exact h.inv.log.hg
end
theorem stext_B (q : Nat) (s : Sh) (m : Option Mv) (B g : Nat) (r : Int) (k : Nat) (w : World) (h : ShB w B q s m g) (hrk : r = s.log.base + k) (hkl : k ≤ s.log.revs.length) :
 Calls Try.prog 47 #[.pointer (some ⟨q, 0, none⟩), .int .i64 r] w fun e w' => e = .returned (.tuple #[.string (txt s.log.text s.log.revs k), .int .i64 0]) ∧ Below w.heap.size w w' := by
 have hg := h.hg
 obtain ⟨b, tN, h⟩ := h
 exact stext_M q s m _ r k w h.mem hg hrk hkl
theorem stextno_B (q : Nat) (s : Sh) (m : Option Mv) (B g : Nat) (r : Int) (w : World) (h : ShB w B q s m g) (he : thE s.log r ≠ 0) :
 Calls Try.prog 47 #[.pointer (some ⟨q, 0, none⟩), .int .i64 r] w fun e w' => e = .returned (.tuple #[.string ⟨#[]⟩, .int .i64 (thE s.log r)]) ∧ Below w.heap.size w w' := by
 have hg := h.hg
 obtain ⟨b, tN, h⟩ := h
 exact stextno_M q s m _ r w h.mem hg he
theorem shead_B (q : Nat) (s : Sh) (m : Option Mv) (B g : Nat) (w : World) (h : ShB w B q s m g) :
 Calls Try.prog 40 #[.pointer (some ⟨q, 0, none⟩)] w fun e w' => e = .returned (.int .i64 (s.log.base + s.log.revs.length)) ∧ Below w.heap.size w w' := by
 have hg := h.hg
 obtain ⟨b, tN, h⟩ := h
 exact shead_M q s m _ w h.mem hg
theorem srevs_B (q : Nat) (s : Sh) (m : Option Mv) (B g : Nat) (r : Int) (k : Nat) (w : World) (h : ShB w B q s m g) (hrk : r = s.log.base + k) (hkl : k ≤ s.log.revs.length) :
 Calls Try.prog 50 #[.pointer (some ⟨q, 0, none⟩), .int .i64 r] w fun e w' => ∃ (sl' : Sl) (ss : List Sl), e = .returned (.tuple #[.slice sl'.1 sl'.2.1 sl'.2.2, .int .i64 0]) ∧ OwnV w' w.heap.size (.slice sl'.1 sl'.2.1 sl'.2.2) ss (s.log.revs.drop k) ∧ Below w.heap.size w w' := by
 have hg := h.hg
 obtain ⟨b, tN, h⟩ := h
 exact srevs_M q s m _ r k w h.mem hg hrk hkl
theorem snew_B (w : World) :
 Calls Try.prog 41 #[] w fun e w' => ∃ q, e = .returned (.pointer (some ⟨q, 0, none⟩)) ∧ ShB w' w.heap.size q shN none 1 ∧ Below w.heap.size w w' := by
 refine (snew_any w).mono ?_
 rintro e w' ⟨q, rfl, hq, hk, hb⟩
 exact ⟨q, rfl, ShB.of ⟨ShM.new hq hk, ShI.new⟩ (fun k hk => hk.1), hb⟩
theorem slastno_B (q : Nat) (s : Sh) (m : Option Mv) (B g : Nat) (a : Int) (w : World) (h : ShB w B q s m g) (ha : a < 0 ∨ 7 < a) :
 Calls Try.prog 49 #[.pointer (some ⟨q, 0, none⟩), .int .i64 a] w fun e w' => e = .returned (.tuple #[.agg #[.int .i64 0, .int .i64 0], .int .i64 1]) ∧ Below w.heap.size w w' := by
 obtain ⟨b, tN, h⟩ := h
 obtain ⟨sl, ss, mp, hk, hv, hr, hs, hm⟩ := h.mem.ex
 exact slast_bad q s sl mp a w hk ha
theorem slast_B (q : Nat) (s : Sh) (m : Option Mv) (B g : Nat) (x : Nat) (w : World) (h : ShB w B q s m g) (hx : x < 8) :
 Calls Try.prog 49 #[.pointer (some ⟨q, 0, none⟩), .int .i64 x] w fun e w' => e = .returned (.tuple #[.agg #[.int .i64 (s.log.table.getD x (0, 0)).1, .int .i64 (s.log.table.getD x (0, 0)).2], .int .i64 0]) ∧ Below w.heap.size w w' := by
 have hg := h.hg
 obtain ⟨b, tN, h⟩ := h
 obtain ⟨sl, ss, mp, hk, hv, hr, hs, hm⟩ := h.mem.ex
 have := slast_good q s sl mp x w hk hg.l8 hx
 rw [show s.log.table.getD x (0, 0) = s.log.table[x]'(by have := hg.l8.2; omega) from by rw [List.getD_eq_getElem?_getD, List.getElem?_eq_getElem (by have := hg.l8.2; omega)]; rfl]
 exact this


theorem meet_rdn (a b : List Pt) (A A' : Option Addr) (n n' c c' : Nat) (w : World) (h : RdP w w.heap.size A n c a) (h' : RdP w w.heap.size A' n' c' b) (z : Int) (x y : List Pt) (hz : meetE a b = z) (hx : meetC a b = x) (hy : meetD a b = y) :
 Calls Try.prog 93 #[.slice A n c, .slice A' n' c'] w fun e w' => ∃ A1 n1 c1 A2 n2 c2, e = .returned (.tuple #[.slice A1 n1 c1, .slice A2 n2 c2, .int .i64 z]) ∧
  RdP w' w'.heap.size A1 n1 c1 x ∧ RdP w' w'.heap.size A2 n2 c2 y ∧ Below w.heap.size w w' := by
 subst hz; subst hx; subst hy
 refine (meet_rd a b A A' n n' c c' w h h').mono ?_
 rintro e w' ⟨A1, c1, A2, c2, rfl, h1, h2, hb⟩
 exact ⟨_, _, _, _, _, _, rfl, h1, h2, hb⟩
end Go.Proofs.Ytokngfinnieccaa
