/- The archive with its moves: Add, Keep, Step, Sync keep what always holds (pure). Step, Keep of an archive in memory, whatever its state. Contracts of shop.Sync, shop.Safe, shop.Last. spoil, that more than one may be spoilt; Clone of a list of any size. Two archives beside each other in memory, and blocks that are neither's. The archive of a law: all its blocks have been made since the law began; its methods in these words. Sync, Safe, Last in the laws' words. How many steps a move has still to take, as memory says; Revs of what is not there. Contract of turn.Of. Contracts of undo.Of. -/
import Derived.Test.YtokngfinnieccaaU17
import Derived.Test.YtokngfinnieccaaU7
import Derived.Test.YtokngfinnieccaaU4
import Derived.Test.YtokngfinnieccaaU12
import Derived.Test.YtokngfinnieccaaU10
namespace Go.Proofs.Ytokngfinnieccaa
open Go.ChangeShapes Go.WideShapes Go.RowKit
set_option linter.unusedVariables false
set_option linter.unusedSimpArgs false
set_option maxRecDepth 100000
set_option maxHeartbeats 4000000
theorem ShI.new : ShI shN none 1 0 tz := by
 refine ⟨⟨⟨rfl, by decide, by decide, by decide, by decide⟩, rfl, rfl, rfl, trivial, rfl, rfl, rfl⟩, by decide, by decide, ⟨[], [], 0, rfl, ?_, Nat.le_refl _, ?_, by decide⟩, .inr ⟨rfl, rfl, rfl⟩, by decide⟩
 · show (hdB 1 0 tz ⟨#[]⟩ ++ doneT).data.toList = flat (SF 1 0 tz ⟨#[]⟩ [] (some []))
   rw [SF_done, flat_app, bs_append, hdB_flat, doneT_flat]
 · show ((hdB 1 0 tz ⟨#[]⟩ ++ doneT).size : Int) = ((flat (SF 1 0 tz ⟨#[]⟩ [] (some []))).length : Nat)
   rw [SF_done, flat_app, ← hdB_flat, ← doneT_flat, ← bs_append]
   rfl
theorem txt_app (l : List Rv) (r : Rv) (s : ByteArray) (k : Nat) (hk : k ≤ l.length) : txt s (l ++ [r]) k = txt s l k := by
 have h := txt_take (l ++ [r]) s l.length k hk
 rw [List.take_left'] at h
 · exact h.symm
 · rfl
theorem CurI.add {x : Slt} {l : Lg} {g b : Nat} {tN : List (Nat × Nat)} {safe : Int} (h : CurI x l g b tN safe) (r : Rv) : CurI (x.1 ++ frB r, x.2) (addL l r) g b tN safe := by
 obtain ⟨r1, r2, j0, e1, e2, e3, e4, e5⟩ := h
 refine ⟨r1, r2 ++ [r], j0, ?_, ?_, ?_, ?_, e5⟩
 · show l.revs ++ [r] = _
   rw [e1, List.append_assoc]
 · show (x.1 ++ frB r).data.toList = flat (SF g b tN l.text r1 (some (r2 ++ [r])))
   rw [SF_snoc2, flat_app, bs_append, e2, frB_flat]
 · simp; omega
 · rw [List.take_append_of_le_length e3]; exact e4
section
variable {s : Sh} {m : Option Mv} {g b : Nat} {tN : List (Nat × Nat)}
theorem ShI.put_ok (h : ShI s m g b tN) (i : Nat) (hi : i ≤ 1) {t : ByteArray} (ht : t.size ≤ 700000) : (slotOf s i).1.size + t.size ≤ 1048576 := by have := (h.sz i hi).1; omega
theorem ShI.look_put (h : ShI s m g b tN) (i j : Nat) (hi : i ≤ 1) (hj : j ≤ 1) {t : ByteArray} (ht : t.size ≤ 5000) : dlook (putS s i t).d0 (putS s i t).d1 (j : Int) = 0 := by
 have hp := fun j hj => slot_put s i j t hi hj (h.put_ok i hi (by omega))
 have key : ∀ j, j ≤ 1 → (slotOf (putS s i t) j).1.size ≤ 310000 ∧ 0 ≤ (slotOf (putS s i t) j).2 ∧ (slotOf (putS s i t) j).2 ≤ ((slotOf (putS s i t) j).1.size : Int) := fun j hj => by
  rw [hp j hj]
  have h1 := h.sz j hj
  have h2 := h.sz i hi
  unfold SzI at h1 h2
  split
  · simp only [ByteArray.size_append]; omega
  · omega
 have k0 := key 0 (by omega)
 have k1 := key 1 (by omega)
 have e0 : sbad (putS s i t).d0 = 0 := sbad_ok (by have := k0.1; show (slotOf (putS s i t) 0).1.size ≤ _; omega) k0.2.1 k0.2.2
 have e1 : sbad (putS s i t).d1 = 0 := sbad_ok (by have := k1.1; show (slotOf (putS s i t) 1).1.size ≤ _; omega) k1.2.1 k1.2.2
 unfold dlook dchk
 rw [e0, e1]
 rw [if_neg (by simp), if_neg (by omega)]
theorem tabK_add {l : Lg} {r : Rv} {k : Nat} (hk : k ≤ l.revs.length) : tabK (addL l r) k = tabK l k := by
 unfold tabK
 show natT (tblF l.base l.first ((l.revs ++ [r]).take k)) = _
 rw [List.take_append_of_le_length hk]
theorem ShI.add (h : ShI s m g b tN) (r : Rv) : ShI (addG s m r) m g b tN := by
 unfold addG
 split
 case isFalse => exact h
 rename_i hn
 have hone := (next_len hn).1
 have hfb := frB_size hone
 have hl := h.log.add hn
 have ha := h.at1
 have hsf : s.safe ≤ (addL s.log r).base + ((addL s.log r).revs.length : Int) := by
  have := h.sf
  show s.safe ≤ s.log.base + ((s.log.revs ++ [r]).length : Int)
  rw [List.length_append, List.length_singleton]
  omega
 have hp := fun j hj => slot_put s s.at_ j (frB r) h.at1 hj (h.put_ok s.at_ h.at1 (by omega))
 split
 · rename_i hwh
   cases m with
   | none => simp [whM] at hwh
   | some v =>
     obtain ⟨fl, cp, wh⟩ := v
     obtain ⟨ho, k, e1, hk, hx⟩ := h.oth
     have hwh : wh = true := hwh
     rcases hx with ⟨_, e, _⟩ | ⟨c, _, e, _⟩ | ⟨c, r1, r2, j0, ec, ec2, ew, d1, d2, d3, d4, d5⟩
     · rw [e] at hwh; cases hwh
     · rw [e] at hwh; cases hwh
     · have hz2 : (slotOf (putS s s.at_ (frB r)) (1 - s.at_)).1.size + (frB r).size ≤ 1048576 := by
        rw [hp (1 - s.at_) (by omega), if_neg (by omega)]
        exact h.put_ok _ (by omega) (by omega)
       have hq := fun j hj => slot_put (putS s s.at_ (frB r)) (1 - s.at_) j (frB r) (by omega) hj hz2
       refine ⟨hl, h.at1, h.g1, ?_, ?_, hsf⟩
       · show CurI (slotOf (putS (putS s s.at_ (frB r)) ((1 - s.at_ : Nat) : Int) (frB r)) s.at_) (addL s.log r) g b tN s.safe
         rw [hq s.at_ h.at1, if_neg (by omega), hp s.at_ h.at1, if_pos rfl]
         exact h.cur.add r
       · show OthI (slotOf (putS (putS s s.at_ (frB r)) ((1 - s.at_ : Nat) : Int) (frB r)) (1 - s.at_)) (addL s.log r) s.safe s.old (some (fl, cp, wh)) g b
         rw [hq _ (by omega), if_pos rfl, hp _ (by omega), if_neg (by omega)]
         refine ⟨ho, k, e1, ?_, .inr (.inr ⟨c, r1, r2 ++ [r], j0, ec, ec2, ew, ?_, ?_, ?_, ?_, d5⟩)⟩
         · show k ≤ (s.log.revs ++ [r]).length
           simp; omega
         · show (s.log.revs ++ [r]).drop k = _
           rw [List.drop_append_of_le_length hk, d1, List.append_assoc]
         · show ((slotOf s (1 - s.at_)).1 ++ frB r).data.toList = flat (SF (g + 1) (b + k) (tabK (addL s.log r) k) (txt s.log.text (s.log.revs ++ [r]) k) r1 (some (r2 ++ [r])))
           rw [tabK_add hk, txt_app _ _ _ _ hk, SF_snoc2, flat_app, bs_append, d2, frB_flat]
         · simp; omega
         · show ((slotOf s (1 - s.at_)).2 = 0 ∧ j0 = 0) ∨ (slotOf s (1 - s.at_)).2 = ((flat (SF (g + 1) (b + k) (tabK (addL s.log r) k) (txt s.log.text (s.log.revs ++ [r]) k) r1 (some ((r2 ++ [r]).take j0)))).length : Nat)
           rw [tabK_add hk, txt_app _ _ _ _ hk, List.take_append_of_le_length d3]
           exact d4
 · rename_i hwh
   refine ⟨hl, h.at1, h.g1, ?_, ?_, hsf⟩
   · show CurI (slotOf (putS s s.at_ (frB r)) s.at_) (addL s.log r) g b tN s.safe
     rw [hp s.at_ h.at1, if_pos rfl]
     exact h.cur.add r
   · show OthI (slotOf (putS s s.at_ (frB r)) (1 - s.at_)) (addL s.log r) s.safe s.old m g b
     rw [hp _ (by omega), if_neg (by omega)]
     have ho := h.oth
     cases m with
     | none => exact ho
     | some v =>
       obtain ⟨fl, cp, wh⟩ := v
       obtain ⟨ho, k, e1, hk, hx⟩ := ho
       refine ⟨ho, k, e1, ?_, ?_⟩
       · show k ≤ (s.log.revs ++ [r]).length
         simp; omega
       · rcases hx with hx | ⟨c, c1, c2, c3, c4, c5⟩ | ⟨c, r1, r2, j0, ec, ec2, ew, _⟩
         · exact .inl hx
         · refine .inr (.inl ⟨c, c1, c2, ?_, ?_, c5⟩)
           · show k + c ≤ (s.log.revs ++ [r]).length
             simp; omega
           · show (slotOf s (1 - s.at_)).1.data.toList = flat (SF (g + 1) (b + k) (tabK (addL s.log r) k) (txt s.log.text (s.log.revs ++ [r]) k) (((s.log.revs ++ [r]).drop k).take c) none)
             rw [tabK_add hk, txt_app _ _ _ _ hk, List.drop_append_of_le_length hk, List.take_append_of_le_length (by rw [List.length_drop]; omega)]
             exact c4
         · exact absurd ew hwh
end
structure ShG (w : World) (F : Nat → Prop) (q : Nat) (s : Sh) (m : Option Mv) (g b : Nat) (tN : List (Nat × Nat)) : Prop where
 mem : ShM w F q s m
 inv : ShI s m g b tN
theorem ShG.below {w w' : World} {F : Nat → Prop} {q : Nat} {s : Sh} {m : Option Mv} {g b : Nat} {tN : List (Nat × Nat)} (h : ShG w F q s m g b tN) (hb : Below w.heap.size w w') : ShG w' F q s m g b tN := ⟨h.mem.below hb, h.inv⟩
theorem sadd_G (q : Nat) (s : Sh) (m : Option Mv) (F : Nat → Prop) (g b : Nat) (tN : List (Nat × Nat)) (a c : Int) (d : List Pt) (A : Option Addr) (n cc : Nat) (w : World) (h : ShG w F q s m g b tN) (hd : RdP w w.heap.size A n cc d) :
 Calls Try.prog 42 #[.pointer (some ⟨q, 0, none⟩), .agg #[.int .i64 a, .int .i64 c, .slice A n cc]] w fun e w' =>
  e = .returned (.tuple #[.int .i64 (if nextE s.log s.text.size (a, c, d) = 0 then s.log.base + (s.log.revs.length + 1 : Nat) else 0), .int .i64 (nextE s.log s.text.size (a, c, d))]) ∧ ShG w' (grow F w w') q (addG s m (a, c, d)) m g b tN ∧ Only w w' F := by
 have ha := h.inv.at1
 refine (sadd_M q s m F a c d A n cc w h.mem h.inv.log.hg ha (h.inv.look _ ha) (fun _ hn => h.inv.look_put s.at_ (1 - s.at_) ha (by omega) (by have := frB_size (next_len hn).1; omega)) hd).mono ?_
 rintro e w' ⟨rfl, hM, oo⟩
 exact ⟨rfl, ⟨hM, h.inv.add _⟩, oo⟩
theorem slast_bad (q : Nat) (s : Sh) (sl : Sl) (mp : Option Addr) (a : Int) (w : World) (hk : Blk w q 134 (shc s sl mp)) (ha : a < 0 ∨ 7 < a) :
 Calls Try.prog 49 #[.pointer (some ⟨q, 0, none⟩), .int .i64 a] w fun e w' => e = .returned (.tuple #[.agg #[.int .i64 0, .int .i64 0], .int .i64 1]) ∧ Below w.heap.size w w' := by
 have lk := hk.lt
 have hb := (Below.refl w.heap.size w).alloc (Nat.le_refl _) (.cells #[.int .i64 0, .int .i64 0] 74)
 by_cases h0 : a < 0
 · have hd : decide (a < 0) = true := decide_eq_true h0
   go_enter Try.func49, Try.ntmps49
   go_wp2_with fail
   exact bodyPost_ret (v := .tuple #[.agg #[.int .i64 0, .int .i64 0], .int .i64 1]) (by simp [results, Try.results49, go_sem]) rfl ⟨rfl, hb⟩
 · have hd : decide (a < 0) = false := decide_eq_false h0
   have hd2 : decide (7 < a) = true := decide_eq_true (by omega)
   go_enter Try.func49, Try.ntmps49
   go_wp2_with fail
   exact bodyPost_ret (v := .tuple #[.agg #[.int .i64 0, .int .i64 0], .int .i64 1]) (by simp [results, Try.results49, go_sem]) rfl ⟨rfl, hb⟩
theorem slast_good (q : Nat) (s : Sh) (sl : Sl) (mp : Option Addr) (x : Nat) (w : World) (hk : Blk w q 134 (shc s sl mp)) (h8 : Lg8 s.log) (hx : x < 8) :
 Calls Try.prog 49 #[.pointer (some ⟨q, 0, none⟩), .int .i64 x] w fun e w' => e = .returned (.tuple #[.agg #[.int .i64 (s.log.table[x]'(by have := h8.2; omega)).1, .int .i64 (s.log.table[x]'(by have := h8.2; omega)).2], .int .i64 0]) ∧ Below w.heap.size w w' := by
 obtain ⟨PP, hPP⟩ : ∃ PP, s.log.table[x]'(by have := h8.2; omega) = PP := ⟨_, rfl⟩
 obtain ⟨t1, t2⟩ := lgc_table (s := sl) h8 x hx
 rw [hPP] at t1 t2 ⊢
 obtain ⟨y0, y1⟩ := PP
 simp only at t1 t2
 have e0 := hk.cell (5 + (19 + x * 2))
 have e1 := hk.cell (5 + (19 + x * 2 + 1))
 rw [shc_log _ (by omega) h8, t1] at e0
 rw [shc_log _ (by omega) h8, t2] at e1
 rw [show 5 + (19 + x * 2) = 24 + x * 2 by omega] at e0
 rw [show 5 + (19 + x * 2 + 1) = 24 + x * 2 + 1 by omega] at e1
 have lk := hk.lt
 have hx0 : (0 : Int) ≤ (x : Int) := by omega
 have hx8 : (x : Int) < 8 := by omega
 have hd : decide ((x : Int) < 0) = false := decide_eq_false (by omega)
 have hd2 : decide ((7 : Int) < (x : Int)) = false := decide_eq_false (by omega)
 have hb := (Below.refl w.heap.size w).alloc (Nat.le_refl _) (.cells #[.int .i64 y0, .int .i64 y1] 74)
 clear t1 t2 hPP
 go_enter Try.func49, Try.ntmps49
 go_wp2_with fail
 exact bodyPost_ret (v := .tuple #[.agg #[.int .i64 y0, .int .i64 y1], .int .i64 0]) (by simp [results, Try.results49, go_sem]) rfl ⟨rfl, hb⟩

theorem addG_none (s : Sh) (r : Rv) : addG s none r = if nextE s.log s.text.size r = 0 then addS s r else s := by
 unfold addG
 split
 · rfl
 · rfl
theorem fill_a : nextE shN.log shN.text.size (1, 1, [(2, 0, ⟨#[97]⟩)]) = 0 := by decide
def ShB (w : World) (B q : Nat) (s : Sh) (m : Option Mv) (g : Nat) : Prop := ∃ (b : Nat) (tN : List (Nat × Nat)), ShG w (fun k => B ≤ k ∧ k < w.heap.size) q s m g b tN
section
variable {w w' : World} {B q g : Nat} {s : Sh} {m : Option Mv}
theorem ShB.below (h : ShB w B q s m g) (hb : Below w.heap.size w w') : ShB w' B q s m g := by
 obtain ⟨b, tN, h⟩ := h
 have hs := hb.size
 exact ⟨b, tN, (h.mem.below hb).mono (fun k hk => ⟨hk.1, by omega⟩) (fun k hk => hk.2), h.inv⟩
theorem ShB.of {F : Nat → Prop} {b : Nat} {tN : List (Nat × Nat)} (h : ShG w' F q s m g b tN) (hF : ∀ k, F k → B ≤ k) : ShB w' B q s m g :=
 ⟨b, tN, h.mem.mono (fun k hk => ⟨hF k hk, h.mem.lt k hk⟩) (fun k hk => hk.2), h.inv⟩
theorem ShB.grown {b : Nat} {tN : List (Nat × Nat)} (hB : B ≤ w.heap.size) (h : ShG w' (grow (fun k => B ≤ k ∧ k < w.heap.size) w w') q s m g b tN) : ShB w' B q s m g :=
 ShB.of h fun k hk => by
  rcases hk with hk | hk
  · exact hk.1
  · omega
theorem ShB.hg (h : ShB w B q s m g) : Hg s.log s.text := by obtain ⟨b, tN, h⟩ := h; exact h.inv.log.hg
end
theorem sadd_B (q : Nat) (s : Sh) (m : Option Mv) (B g : Nat) (a c : Int) (d : List Pt) (A : Option Addr) (n cc : Nat) (w : World) (h : ShB w B q s m g) (hB : B ≤ w.heap.size) (hd : RdP w w.heap.size A n cc d) :
 Calls Try.prog 42 #[.pointer (some ⟨q, 0, none⟩), .agg #[.int .i64 a, .int .i64 c, .slice A n cc]] w fun e w' =>
  e = .returned (.tuple #[.int .i64 (if nextE s.log s.text.size (a, c, d) = 0 then s.log.base + (s.log.revs.length + 1 : Nat) else 0), .int .i64 (nextE s.log s.text.size (a, c, d))]) ∧ ShB w' B q (addG s m (a, c, d)) m g ∧ Below B w w' := by
 obtain ⟨b, tN, h⟩ := h
 refine (sadd_G q s m _ g b tN a c d A n cc w h hd).mono ?_
 rintro e w' ⟨rfl, h', oo⟩
 exact ⟨rfl, ShB.grown hB h', oo.below hB (fun k hk => hk.1)⟩
theorem stext_B (q : Nat) (s : Sh) (m : Option Mv) (B g : Nat) (r : Int) (k : Nat) (w : World) (h : ShB w B q s m g) (hrk : r = s.log.base + k) (hkl : k ≤ s.log.revs.length) :
 Calls Try.prog 47 #[.pointer (some ⟨q, 0, none⟩), .int .i64 r] w fun e w' => e = .returned (.tuple #[.string (txt s.log.text s.log.revs k), .int .i64 0]) ∧ Below w.heap.size w w' := by
 have hg := h.hg
 obtain ⟨b, tN, h⟩ := h
 exact stext_M q s m _ r k w h.mem hg hrk hkl
theorem stextno_B (q : Nat) (s : Sh) (m : Option Mv) (B g : Nat) (r : Int) (w : World) (h : ShB w B q s m g) (he : thE s.log r ≠ 0) :
 Calls Try.prog 47 #[.pointer (some ⟨q, 0, none⟩), .int .i64 r] w fun e w' => e = .returned (.tuple #[.string ⟨#[]⟩, .int .i64 (thE s.log r)]) ∧ Below w.heap.size w w' := by
 have hg := h.hg
 obtain ⟨b, tN, h⟩ := h
 exact stextno_M q s m _ r w h.mem hg he
theorem shead_B (q : Nat) (s : Sh) (m : Option Mv) (B g : Nat) (w : World) (h : ShB w B q s m g) :
 Calls Try.prog 40 #[.pointer (some ⟨q, 0, none⟩)] w fun e w' => e = .returned (.int .i64 (s.log.base + s.log.revs.length)) ∧ Below w.heap.size w w' := by
 have hg := h.hg
 obtain ⟨b, tN, h⟩ := h
 exact shead_M q s m _ w h.mem hg
theorem srevs_B (q : Nat) (s : Sh) (m : Option Mv) (B g : Nat) (r : Int) (k : Nat) (w : World) (h : ShB w B q s m g) (hrk : r = s.log.base + k) (hkl : k ≤ s.log.revs.length) :
 Calls Try.prog 50 #[.pointer (some ⟨q, 0, none⟩), .int .i64 r] w fun e w' => ∃ (sl' : Sl) (ss : List Sl), e = .returned (.tuple #[.slice sl'.1 sl'.2.1 sl'.2.2, .int .i64 0]) ∧ OwnV w' w.heap.size (.slice sl'.1 sl'.2.1 sl'.2.2) ss (s.log.revs.drop k) ∧ Below w.heap.size w w' := by
 have hg := h.hg
 obtain ⟨b, tN, h⟩ := h
 exact srevs_M q s m _ r k w h.mem hg hrk hkl
theorem snew_B (w : World) :
 Calls Try.prog 41 #[] w fun e w' => ∃ q, e = .returned (.pointer (some ⟨q, 0, none⟩)) ∧ ShB w' w.heap.size q shN none 1 ∧ Below w.heap.size w w' := by
 refine (snew_any w).mono ?_
 rintro e w' ⟨q, rfl, hq, hk, hb⟩
 exact ⟨q, rfl, ShB.of ⟨ShM.new hq hk, ShI.new⟩ (fun k hk => hk.1), hb⟩
theorem slastno_B (q : Nat) (s : Sh) (m : Option Mv) (B g : Nat) (a : Int) (w : World) (h : ShB w B q s m g) (ha : a < 0 ∨ 7 < a) :
 Calls Try.prog 49 #[.pointer (some ⟨q, 0, none⟩), .int .i64 a] w fun e w' => e = .returned (.tuple #[.agg #[.int .i64 0, .int .i64 0], .int .i64 1]) ∧ Below w.heap.size w w' := by
 obtain ⟨b, tN, h⟩ := h
 obtain ⟨sl, ss, mp, hk, hv, hr, hs, hm⟩ := h.mem.ex
 exact slast_bad q s sl mp a w hk ha
theorem slast_B (q : Nat) (s : Sh) (m : Option Mv) (B g : Nat) (x : Nat) (w : World) (h : ShB w B q s m g) (hx : x < 8) :
 Calls Try.prog 49 #[.pointer (some ⟨q, 0, none⟩), .int .i64 x] w fun e w' => e = .returned (.tuple #[.agg #[.int .i64 (s.log.table.getD x (0, 0)).1, .int .i64 (s.log.table.getD x (0, 0)).2], .int .i64 0]) ∧ Below w.heap.size w w' := by
 have hg := h.hg
 obtain ⟨b, tN, h⟩ := h
 obtain ⟨sl, ss, mp, hk, hv, hr, hs, hm⟩ := h.mem.ex
 have := slast_good q s sl mp x w hk hg.l8 hx
 rw [show s.log.table.getD x (0, 0) = s.log.table[x]'(by have := hg.l8.2; omega) from by rw [List.getD_eq_getElem?_getD, List.getElem?_eq_getElem (by have := hg.l8.2; omega)]; rfl]
 exact this


theorem meet_rdn (a b : List Pt) (A A' : Option Addr) (n n' c c' : Nat) (w : World) (h : RdP w w.heap.size A n c a) (h' : RdP w w.heap.size A' n' c' b) (z : Int) (x y : List Pt) (hz : meetE a b = z) (hx : meetC a b = x) (hy : meetD a b = y) :
 Calls Try.prog 93 #[.slice A n c, .slice A' n' c'] w fun e w' => ∃ A1 n1 c1 A2 n2 c2, e = .returned (.tuple #[.slice A1 n1 c1, .slice A2 n2 c2, .int .i64 z]) ∧
  RdP w' w'.heap.size A1 n1 c1 x ∧ RdP w' w'.heap.size A2 n2 c2 y ∧ Below w.heap.size w w' := by
 subst hz; subst hx; subst hy
 refine (meet_rd a b A A' n n' c c' w h h').mono ?_
 rintro e w' ⟨A1, c1, A2, c2, rfl, h1, h2, hb⟩
 exact ⟨_, _, _, _, _, _, rfl, h1, h2, hb⟩
end Go.Proofs.Ytokngfinnieccaa
