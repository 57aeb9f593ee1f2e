/- The archive of a law: all its blocks have been made since the law began; its methods in these words. Sync, Safe, Last in the laws' words. How many steps a move has still to take, as memory says; Revs of what is not there. Contract of turn.Of. Contracts of undo.Of. -/
import Derived.Test.YtokngfinnieccaaV22
import Derived.Test.YtokngfinnieccaaV8
import Derived.Test.YtokngfinnieccaaV4
import Derived.Test.YtokngfinnieccaaV15
import Derived.Test.YtokngfinnieccaaV11
namespace Go.Proofs.Ytokngfinnieccaa
open Go.ChangeShapes Go.WideShapes Go.RowKit
set_option linter.unusedVariables false
set_option linter.unusedSimpArgs false
set_option maxRecDepth 100000
set_option maxHeartbeats 4000000
def ShB (w : World) (B q : Nat) (s : Sh) (m : Option Mv) (g : Nat) : Prop := ∃ (b : Nat) (tN : List (Nat × Nat)), ShG w (fun k => B ≤ k ∧ k < w.heap.size) q s m g b tN
section
variable {w w' : World} {B q g : Nat} {s : Sh} {m : Option Mv}
theorem ShB.below (h : ShB w B q s m g) (hb : Below w.heap.size w w') : ShB w' B q s m g := by
 obtain ⟨b, tN, h⟩ := h
 have hs := hb.size
 exact ⟨b, tN, (h.mem.below hb).mono (fun k hk => ⟨hk.1, by omega⟩) (fun k hk => hk.2), h.inv⟩
theorem ShB.of {F : Nat → Prop} {b : Nat} {tN : List (Nat × Nat)} (h : ShG w' F q s m g b tN) (hF : ∀ k, F k → B ≤ k) : ShB w' B q s m g :=
 ⟨b, tN, h.mem.mono (fun k hk => ⟨hF k hk, h.mem.lt k hk⟩) (fun k hk => hk.2), h.inv⟩
theorem ShB.grown {b : Nat} {tN : List (Nat × Nat)} (hB : B ≤ w.heap.size) (h : ShG w' (grow (fun k => B ≤ k ∧ k < w.heap.size) w w') q s m g b tN) : ShB w' B q s m g :=
 ShB.of h fun k hk => by
  rcases hk with hk | hk
  · exact hk.1
  · omega
theorem ShB.hg (h : ShB w B q s m g) : Hg s.log s.text := by obtain ⟨b, tN, h⟩ := h; exact h.inv.log.hg
end
theorem sadd_B (q : Nat) (s : Sh) (m : Option Mv) (B g : Nat) (a c : Int) (d : List Pt) (A : Option Addr) (n cc : Nat) (w : World) (h : ShB w B q s m g) (hB : B ≤ w.heap.size) (hd : RdP w w.heap.size A n cc d) :
 Calls Try.prog 42 #[.pointer (some ⟨q, 0, none⟩), .agg #[.int .i64 a, .int .i64 c, .slice A n cc]] w fun e w' =>
  e = .returned (.tuple #[.int .i64 (if nextE s.log s.text.size (a, c, d) = 0 then s.log.base + (s.log.revs.length + 1 : Nat) else 0), .int .i64 (nextE s.log s.text.size (a, c, d))]) ∧ ShB w' B q (addG s m (a, c, d)) m g ∧ Below B w w' := by
 obtain ⟨b, tN, h⟩ := h
 refine (sadd_G q s m _ g b tN a c d A n cc w h hd).mono ?_
 rintro e w' ⟨rfl, h', oo⟩
 exact ⟨rfl, ShB.grown hB h', oo.below hB (fun k hk => hk.1)⟩
theorem stext_B (q : Nat) (s : Sh) (m : Option Mv) (B g : Nat) (r : Int) (k : Nat) (w : World) (h : ShB w B q s m g) (hrk : r = s.log.base + k) (hkl : k ≤ s.log.revs.length) :
 Calls Try.prog 47 #[.pointer (some ⟨q, 0, none⟩), .int .i64 r] w fun e w' => e = .returned (.tuple #[.string (txt s.log.text s.log.revs k), .int .i64 0]) ∧ Below w.heap.size w w' := by
 have hg := h.hg
 obtain ⟨b, tN, h⟩ := h
 exact stext_M q s m _ r k w h.mem hg hrk hkl
theorem stextno_B (q : Nat) (s : Sh) (m : Option Mv) (B g : Nat) (r : Int) (w : World) (h : ShB w B q s m g) (he : thE s.log r ≠ 0) :
 Calls Try.prog 47 #[.pointer (some ⟨q, 0, none⟩), .int .i64 r] w fun e w' => e = .returned (.tuple #[.string ⟨#[]⟩, .int .i64 (thE s.log r)]) ∧ Below w.heap.size w w' := by
 have hg := h.hg
 obtain ⟨b, tN, h⟩ := h
 exact stextno_M q s m _ r w h.mem hg he
theorem shead_B (q : Nat) (s : Sh) (m : Option Mv) (B g : Nat) (w : World) (h : ShB w B q s m g) :
 Calls Try.prog 40 #[.pointer (some ⟨q, 0, none⟩)] w fun e w' => e = .returned (.int .i64 (s.log.base + s.log.revs.length)) ∧ Below w.heap.size w w' := by
 have hg := h.hg
 obtain ⟨b, tN, h⟩ := h
 exact shead_M q s m _ w h.mem hg
theorem srevs_B (q : Nat) (s : Sh) (m : Option Mv) (B g : Nat) (r : Int) (k : Nat) (w : World) (h : ShB w B q s m g) (hrk : r = s.log.base + k) (hkl : k ≤ s.log.revs.length) :
 Calls Try.prog 50 #[.pointer (some ⟨q, 0, none⟩), .int .i64 r] w fun e w' => ∃ (sl' : Sl) (ss : List Sl), e = .returned (.tuple #[.slice sl'.1 sl'.2.1 sl'.2.2, .int .i64 0]) ∧ OwnV w' w.heap.size (.slice sl'.1 sl'.2.1 sl'.2.2) ss (s.log.revs.drop k) ∧ Below w.heap.size w w' := by
 have hg := h.hg
 obtain ⟨b, tN, h⟩ := h
 exact srevs_M q s m _ r k w h.mem hg hrk hkl
theorem sdisk_B (q : Nat) (s : Sh) (m : Option Mv) (B g : Nat) (w : World) (h : ShB w B q s m g) :
 Calls Try.prog 48 #[.pointer (some ⟨q, 0, none⟩)] w fun e w' => e = .returned (dvl s.d0 s.d1) ∧ Below w.heap.size w w' := by
 obtain ⟨b, tN, h⟩ := h
 exact sdisk_M q s m _ w h.mem
theorem snew_B (w : World) :
 Calls Try.prog 41 #[] w fun e w' => ∃ q, e = .returned (.pointer (some ⟨q, 0, none⟩)) ∧ ShB w' w.heap.size q shN none 1 ∧ Below w.heap.size w w' := by
 refine (snew_any w).mono ?_
 rintro e w' ⟨q, rfl, hq, hk, hb⟩
 exact ⟨q, rfl, ShB.of ⟨ShM.new hq hk, ShI.new⟩ (fun k hk => hk.1), hb⟩
theorem ssync_G (q : Nat) (s : Sh) (m : Option Mv) (F : Nat → Prop) (g b : Nat) (tN : List (Nat × Nat)) (w : World) (h : ShG w F q s m g b tN) :
 Calls Try.prog 43 #[.pointer (some ⟨q, 0, none⟩)] w fun e w' => e = .returned (.tuple #[]) ∧ ShG w' (grow F w w') q (syncG s m) m g b tN ∧ Only w w' F := by
 obtain ⟨hM, hI⟩ := h
 obtain ⟨sl, ss, mp, hk, hv, hr, hs, hm⟩ := hM.ex
 have hR : ShR w q s sl ss mp := ⟨hk, hv⟩
 have h8 := hI.log.hg.l8
 have hb0 := hI.log.hg.base0
 have hb1 := hI.log.hg.base1
 have hlen := hI.log.len
 have ha := hI.at1
 have hl := hI.look s.at_ ha
 have fin : ∀ (w' : World) (s' : Sh), s' = syncG s m → ShR w' q s' sl ss mp → Only w w' (fun k => k = q) → MvM w' F m mp → ShG w' (grow F w w') q (syncG s m) m g b tN ∧ Only w w' F := by
  intro w' s' e hR' oo hm'
  subst e
  exact ⟨⟨ShM.back hM.fq hM.lt hr hs oo.2.2.2.1 hR' (hm'.mono fun k hk => .inl hk), hI.sync⟩, oo.mono fun k _ e => e ▸ hM.fq⟩
 cases m with
 | none =>
   obtain rfl : mp = none := hm
   refine (ssync_none q s sl ss w hR h8 ha hb0 hb1 hlen hl).mono ?_
   rintro e w' ⟨rfl, hR', oo⟩
   exact ⟨rfl, fin w' _ rfl hR' oo rfl⟩
 | some v =>
   obtain ⟨fl, cp, wh⟩ := v
   obtain ⟨gm, em, hfg, hkg⟩ := hm
   subst em
   obtain ⟨-, k, e1, -⟩ := hI.oth
   obtain rfl : fl = ((b + k : Nat) : Int) := by omega
   cases wh with
   | false =>
     refine (ssync_no q s sl ss gm (b + k) cp w hR hkg h8 ha hb0 hb1 hlen hl).mono ?_
     rintro e w' ⟨rfl, hR', oo⟩
     exact ⟨rfl, fin w' _ rfl hR' oo ⟨gm, rfl, hfg, hkg.only oo (Blk.ne_ hkg hk (by decide))⟩⟩
   | true =>
     have hl2 : dlook (syncSh s ((1 - s.at_ : Nat) : Int)).d0 (syncSh s ((1 - s.at_ : Nat) : Int)).d1 (s.at_ : Int) = 0 := by
      have key : ∀ j, j ≤ 1 → SzI (slotOf (syncSh s ((1 - s.at_ : Nat) : Int)) j) := fun j hj => by
       rw [slot_syn s (1 - s.at_) j (by omega) hj]
       split
       · have := hI.sz (1 - s.at_) (by omega)
         exact ⟨this.1, by simp only; omega, Int.le_refl _⟩
       · exact hI.sz j hj
      exact look_of (key 0 (by omega)) (key 1 (by omega)) _ ha
     refine (ssync_yes q s sl ss gm (b + k) cp w hR hkg h8 ha hb0 hb1 hlen hl (hI.look (1 - s.at_) (by omega)) hl2).mono ?_
     rintro e w' ⟨rfl, hR', oo⟩
     exact ⟨rfl, fin w' _ rfl hR' oo ⟨gm, rfl, hfg, hkg.only oo (Blk.ne_ hkg hk (by decide))⟩⟩
theorem ssync_B (q : Nat) (s : Sh) (m : Option Mv) (B g : Nat) (w : World) (h : ShB w B q s m g) (hB : B ≤ w.heap.size) :
 Calls Try.prog 43 #[.pointer (some ⟨q, 0, none⟩)] w fun e w' => e = .returned (.tuple #[]) ∧ ShB w' B q (syncG s m) m g ∧ Below B w w' := by
 obtain ⟨b, tN, h⟩ := h
 refine (ssync_G q s m _ g b tN w h).mono ?_
 rintro e w' ⟨rfl, h', oo⟩
 exact ⟨rfl, ShB.grown hB h', oo.below hB (fun k hk => hk.1)⟩
theorem slastno_B (q : Nat) (s : Sh) (m : Option Mv) (B g : Nat) (a : Int) (w : World) (h : ShB w B q s m g) (ha : a < 0 ∨ 7 < a) :
 Calls Try.prog 49 #[.pointer (some ⟨q, 0, none⟩), .int .i64 a] w fun e w' => e = .returned (.tuple #[.agg #[.int .i64 0, .int .i64 0], .int .i64 1]) ∧ Below w.heap.size w w' := by
 obtain ⟨b, tN, h⟩ := h
 obtain ⟨sl, ss, mp, hk, hv, hr, hs, hm⟩ := h.mem.ex
 exact slast_bad q s sl mp a w hk ha
theorem slast_B (q : Nat) (s : Sh) (m : Option Mv) (B g : Nat) (x : Nat) (w : World) (h : ShB w B q s m g) (hx : x < 8) :
 Calls Try.prog 49 #[.pointer (some ⟨q, 0, none⟩), .int .i64 x] w fun e w' => e = .returned (.tuple #[.agg #[.int .i64 (s.log.table.getD x (0, 0)).1, .int .i64 (s.log.table.getD x (0, 0)).2], .int .i64 0]) ∧ Below w.heap.size w w' := by
 have hg := h.hg
 obtain ⟨b, tN, h⟩ := h
 obtain ⟨sl, ss, mp, hk, hv, hr, hs, hm⟩ := h.mem.ex
 have := slast_good q s sl mp x w hk hg.l8 hx
 rw [show s.log.table.getD x (0, 0) = s.log.table[x]'(by have := hg.l8.2; omega) from by rw [List.getD_eq_getElem?_getD, List.getElem?_eq_getElem (by have := hg.l8.2; omega)]; rfl]
 exact this


theorem meet_rdn (a b : List Pt) (A A' : Option Addr) (n n' c c' : Nat) (w : World) (h : RdP w w.heap.size A n c a) (h' : RdP w w.heap.size A' n' c' b) (z : Int) (x y : List Pt) (hz : meetE a b = z) (hx : meetC a b = x) (hy : meetD a b = y) :
 Calls Try.prog 93 #[.slice A n c, .slice A' n' c'] w fun e w' => ∃ A1 n1 c1 A2 n2 c2, e = .returned (.tuple #[.slice A1 n1 c1, .slice A2 n2 c2, .int .i64 z]) ∧
  RdP w' w'.heap.size A1 n1 c1 x ∧ RdP w' w'.heap.size A2 n2 c2 y ∧ Below w.heap.size w w' := by
 subst hz; subst hx; subst hy
 refine (meet_rd a b A A' n n' c c' w h h').mono ?_
 rintro e w' ⟨A1, c1, A2, c2, rfl, h1, h2, hb⟩
 exact ⟨_, _, _, _, _, _, rfl, h1, h2, hb⟩
end Go.Proofs.Ytokngfinnieccaa
