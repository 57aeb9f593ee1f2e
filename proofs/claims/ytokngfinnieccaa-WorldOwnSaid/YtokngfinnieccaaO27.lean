/- A world of hands: how far it is from being calm; up and down, in all. Contract of world.Settle. Contract of world.New. A new world, and what its seats hold. Slices of slices of ints, and of deltas, opened. Contract of the laws' helper Within: a number from 0 to n-1. A world of a law: all its blocks lie behind what was there. put of the laws; what is put at the beginning; what the ends need. Contract of world.Client. -/
import Derived.Test.YtokngfinnieccaaO22
import Derived.Test.YtokngfinnieccaaO25
import Derived.Test.YtokngfinnieccaaO10
import Derived.Test.YtokngfinnieccaaO7
import Derived.Test.YtokngfinnieccaaO9
import Derived.OpenShut
import Derived.Deep.Slices
import Derived.Test.YtokngfinnieccaaO1
import Derived.Test.YtokngfinnieccaaO23
namespace Go.Proofs.Ytokngfinnieccaa
open Go.ChangeShapes Go.WideShapes Go.RowKit
set_option linter.unusedVariables false
set_option linter.unusedSimpArgs false
set_option maxRecDepth 100000
set_option maxHeartbeats 4000000
section
variable {s : Sh} {X : List St} {put edits : Int} {e : Nat → Nat}
end
inductive UpR (s : Sh) (X : List St) (i : Nat) : Bool → Sh → List St → Prop
 | no (x : St) (hx : X[i]? = some x) (hu : x.up = []) : UpR s X i false s X
 | yes (x : St) (b : Int) (d : List Pt) (hx : X[i]? = some x) (hu : x.up = [(b, (i : Int), x.c.seq, d)]) (hE : subE s b i x.c.seq d = 0) (hl : (subS s none b i x.c.seq d).log.revs.length = s.log.revs.length + 1) : UpR s X i true (subS s none b i x.c.seq d) (X.set i { x with up := [] })
inductive DownR (s : Sh) (X : List St) (i : Nat) : Bool → List St → Prop
 | no (x : St) (hx : X[i]? = some x) (ht : x.told = s.log.revs.length) : DownR s X i false X
 | yes (x : St) (hx : X[i]? = some x) (ht : x.told < s.log.revs.length) : DownR s X i true (X.set i (downS (s.log.revs[x.told]) x))
def WdI (w : World) (P : Nat → Prop) (q : Nat) (s : Sh) (X : List St) (put edits : Int) (e : Nat → Nat) : Prop := WdP w P q s X put edits ∧ WI s X put edits e
section
variable {w w' : World} {P : Nat → Prop} {q : Nat} {s : Sh} {X : List St} {put edits : Int} {e : Nat → Nat}
theorem WdI.mono {P' : Nat → Prop} (h : WdI w P q s X put edits e) (hP : ∀ k, k < w.heap.size → P k → P' k) : WdI w P' q s X put edits e := ⟨h.1.mono hP, h.2⟩
end
theorem UpR.len {s s' : Sh} {X X' : List St} {i : Nat} {b : Bool} (h : UpR s X i b s' X') : X'.length = X.length := by
 cases h with
 | no x hx hu => rfl
 | yes x b d hx hu hE hl => rw [List.length_set]
theorem DownR.len {s : Sh} {X X' : List St} {i : Nat} {b : Bool} (h : DownR s X i b X') : X'.length = X.length := by
 cases h with
 | no x hx ht => rfl
 | yes x hx ht => rw [List.length_set]
def nil3 : Sl × Sl × Sl := ((none, 0, 0), (none, 0, 0), (none, 0, 0))
theorem rowW_cons (x : St) (X : List St) (a : Sl × Sl × Sl) (E : List (Sl × Sl × Sl)) : rowW (x :: X) (a :: E) = stc x a ++ rowW X E := rfl
theorem rowW_nil : rowW [] [] = [] := rfl
theorem rowW_snoc (x : St) (a : Sl × Sl × Sl) (X : List St) : ∀ (E : List (Sl × Sl × Sl)), E.length = X.length → rowW (X ++ [x]) (E ++ [a]) = rowW X E ++ stc x a := by
 obtain ⟨M, hM⟩ : ∃ M, stc x a = M := ⟨_, rfl⟩
 induction X with
 | nil =>
   intro E h
   have hE : E = [] := List.eq_nil_of_length_eq_zero h
   rw [hE, List.nil_append, List.nil_append, rowW_cons, rowW_nil, hM, List.append_nil, List.nil_append]
 | cons y X ih =>
   intro E h
   cases E with
   | nil => cases h
   | cons b E =>
     obtain ⟨M2, hM2⟩ : ∃ M2, stc y b = M2 := ⟨_, rfl⟩
     rw [List.cons_append, List.cons_append, rowW_cons, rowW_cons, ih E (Nat.succ.inj h), hM2, List.append_assoc]
def seatsN (k : Nat) : List St := (List.range k).map seat0
theorem rowN (k : Nat) : rowW (seatsN (k + 1)) (List.replicate (k + 1) nil3) = rowW (seatsN k) (List.replicate k nil3) ++ stc (seat0 k) nil3 := by
 unfold seatsN
 rw [List.range_succ, List.map_append, List.replicate_succ', List.map_singleton]
 exact rowW_snoc _ _ _ _ (by rw [List.length_replicate, List.length_map, List.length_range])
theorem info_seat : (Try.prog.info? 118).map (fun i => (i.zero, i.size, i.bytes)) = some (some (.agg #[.int .i64 0, .int .i64 0, .int .i64 0, .string ⟨#[]⟩, .bool false, .slice none 0 0, .bool false, .slice none 0 0, .slice none 0 0, .int .i64 0]), 10, 136) := by kernel_rfl
theorem own_form {w : World} {B size n : Nat} {e : TypeId} {v : Value} {xs : List Value} (h : w.ownsRow B e size v n xs) : ∃ A c, v = .slice A n c := by
 rcases h.2 with ⟨rfl, rfl⟩ | ⟨g, cap, cur, rfl, _⟩
 · exact ⟨_, _, rfl⟩
 · exact ⟨_, _, rfl⟩
theorem own_blk_ne' {w : World} {base g : Nat} {e t : TypeId} {size n : Nat} {v : Value} {xs : List Value} {cs : Array Value} (h : w.ownsRow base e size v n xs) (hg : Blk w g t cs) (hne : e ≠ t) : some g ≠ v.ownBlock := fun hh => own_blk_ne h hg hne hh.symm
theorem wnew_S (n : Nat) (h1 : 1 ≤ n) (h4 : n ≤ 4) (w : World) :
 Calls Try.prog 22 #[.int .i64 n] w fun e w' => ∃ q sq gs cap sp F, e = .returned (.tuple #[.pointer (some ⟨q, 0, none⟩), .int .i64 0]) ∧ WdM w' F q sq gs cap (List.replicate n nil3) sp shN (seatsN n) 0 0 ∧ (∀ k, F k → w.heap.size ≤ k ∧ k < w'.heap.size) ∧ (w.heap.size ≤ q ∧ q < w'.heap.size) ∧ (w.heap.size ≤ gs ∧ gs < w'.heap.size) ∧ WI shN (seatsN n) 0 0 (fun _ => 0) ∧ Below w.heap.size w w' := by
 obtain ⟨B, hB⟩ : ∃ B, w.heap.size = B := ⟨_, rfl⟩
 have HBw := Lib.hid hB
 have hn1 : (1 : Int) ≤ (n : Int) := by omega
 have hn4 : (n : Int) ≤ 4 := by omega
 have hn1' : decide ((n : Int) < 1) = false := decide_eq_false (by omega)
 have hn4' : decide ((4 : Int) < (n : Int)) = false := decide_eq_false (by omega)
 have hc_ := snew_B w
 rw [hB] at hc_
 have Hc_ := Lib.hid hc_
 clear hc_
 go_enter Try.func22, Try.ntmps22
 go_wp2_with fail
 refine Hc_.out.mono ?_
 rintro e w1 ⟨sq, rfl, hs, hb1⟩
 obtain ⟨Z, hZ⟩ : ∃ Z, w1.heap.size = Z := ⟨_, rfl⟩
 have hsg : ShG w1 (fun k => B ≤ k ∧ k < Z) sq shN none 1 0 tz := by
  obtain ⟨b_, tN_, hh⟩ := hs
  rw [hZ] at hh
  exact ⟨hh.mem, ShI.new⟩
 have kq := Blk.new w1 115 #[.pointer (some ⟨sq, 0, none⟩), .slice none 0 0, .int .i64 0, .int .i64 0]
 have hal := (Below.refl w1.heap.size w1).alloc (Nat.le_refl _) (.cells #[.pointer (some ⟨sq, 0, none⟩), .slice none 0 0, .int .i64 0, .int .i64 0] 115)
 have HG := Lib.hid (hsg.below hal)
 have HB0 : Hid (Below B w (w1.alloc (.cells #[.pointer (some ⟨sq, 0, none⟩), .slice none 0 0, .int .i64 0, .int .i64 0] 115))) := Lib.hid (hb1.trans (hal.mono (by rw [← hB]; exact hb1.size)))
 have hBZ : B ≤ Z := by rw [← hZ, ← hB]; exact hb1.size
 have HBZ := Lib.hid hBZ
 clear Hc_ hs hsg hb1 hal hBZ
 go_upto_region 5 with (fail)
 obtain ⟨U, hU⟩ : ∃ U, w1.alloc (.cells #[.pointer (some ⟨sq, 0, none⟩), .slice none 0 0, .int .i64 0, .int .i64 0] 115) = U := ⟨_, rfl⟩
 have hZU : Z < U.heap.size := by rw [← hU, ← hZ]; simp
 rw [hU] at HG HB0 kq ⊢
 rw [hZ] at kq
 have HK := Lib.hid kq
 have HZU := Lib.hid hZU
 have HOW : Hid (U.ownsRow (Z + 1) 118 10 (.slice none 0 0) 0 (rowW (seatsN 0) (List.replicate 0 nil3))) := Lib.hid (World.ownsRow_nil _ _ _ _)
 clear hU hZ kq hZU
 go_loopw [5, 16] (fun x5 iv wr => ∃ (k : Nat) (A : Option Addr) (c : Nat), k ≤ n ∧ iv = .int .i64 k ∧ Hid (Blk wr Z 115 #[.pointer (some ⟨sq, 0, none⟩), .slice A k c, .int .i64 0, .int .i64 0]) ∧ Hid (wr.ownsRow (Z + 1) 118 10 (.slice A k c) k (rowW (seatsN k) (List.replicate k nil3))) ∧ Hid (ShG wr (fun k => B ≤ k ∧ k < Z) sq shN none 1 0 tz) ∧ Hid (Below B w wr) ∧ Hid (Z < wr.heap.size)) (fun _ iv _ => n - (intOf iv).toNat)
 case atStart => exact ⟨0, none, 0, by omega, rfl, HK, HOW, HG, HB0, HZU⟩
 case round =>
  clear HK HOW HG HB0 HZU
  obtain ⟨k, A, c, hk, rfl, HK, HOW, HG, HB0, HZU⟩ := hrel
  by_cases hlt : k < n
  · have hk0 : (0 : Int) ≤ (k : Int) := by omega
    have hkn : (k : Int) < (n : Int) := by omega
    have hk4 : k ≤ 4 := by omega
    have kq := HK.out.alloc (.cells #[.int .i64 k, .int .i64 0, .int .i64 0, .string ⟨#[]⟩, .bool false, .slice none 0 0, .bool false, .slice none 0 0, .slice none 0 0, .int .i64 0] 118)
    have ks := Blk.new wr 118 #[.int .i64 k, .int .i64 0, .int .i64 0, .string ⟨#[]⟩, .bool false, .slice none 0 0, .bool false, .slice none 0 0, .slice none 0 0, .int .i64 0]
    have hal := (Below.refl wr.heap.size wr).alloc (Nat.le_refl _) (.cells #[.int .i64 k, .int .i64 0, .int .i64 0, .string ⟨#[]⟩, .bool false, .slice none 0 0, .bool false, .slice none 0 0, .slice none 0 0, .int .i64 0] 118)
    have hown := HOW.out.alloc (.cells #[.int .i64 k, .int .i64 0, .int .i64 0, .string ⟨#[]⟩, .bool false, .slice none 0 0, .bool false, .slice none 0 0, .slice none 0 0, .int .i64 0] 118)
    have hGa := HG.out.below hal
    have hBa := HB0.out.trans (hal.mono (by have := HB0.out.size; have := HBw.out; omega))
    have q1 := kq.cell 1
    have q1f := kq.frozen 1
    have lq := kq.lt
    have p1 := HK.out.cell 1
    have lp := HK.out.lt
    have hsz : (wr.alloc (.cells #[.int .i64 k, .int .i64 0, .int .i64 0, .string ⟨#[]⟩, .bool false, .slice none 0 0, .bool false, .slice none 0 0, .slice none 0 0, .int .i64 0] 118)).heap.size = wr.heap.size + 1 := World.size_alloc _ _
    have HKQ := Lib.hid kq
    have HGa := Lib.hid hGa
    have HBa := Lib.hid hBa
    have HSZ := Lib.hid hsz
    obtain ⟨i0, hi, hz0, hz1, hz2⟩ := info_parts info_seat
    have hnews : ∀ j u, (stc (seat0 k) nil3)[j]? = some u → (wr.alloc (.cells #[.int .i64 k, .int .i64 0, .int .i64 0, .string ⟨#[]⟩, .bool false, .slice none 0 0, .bool false, .slice none 0 0, .slice none 0 0, .int .i64 0] 118)).cell? ((⟨wr.heap.size, 0, none⟩ : Addr).add j) = some u := by
     intro j u hj
     rw [add0, ks.cell, show #[.int .i64 k, .int .i64 0, .int .i64 0, .string ⟨#[]⟩, .bool false, .slice none 0 0, .bool false, .slice none 0 0, .slice none 0 0, .int .i64 0] = (stc (seat0 k) nil3).toArray from rfl, List.getElem?_toArray]
     exact hj
    have hones : ∀ u ∈ stc (seat0 k) nil3, u.oneCell' = true := by simp [stc, seat0, nil3, Value.oneCell']
    have hbase : Z + 1 ≤ (wr.alloc (.cells #[.int .i64 k, .int .i64 0, .int .i64 0, .string ⟨#[]⟩, .bool false, .slice none 0 0, .bool false, .slice none 0 0, .slice none 0 0, .int .i64 0] 118)).heap.size := by rw [hsz]; have := HZU.out; omega
    have h63 : k + 1 ≤ maxLen := by simp only [maxLen]; omega
    have HB0s := Lib.hid HB0.out.size
    clear hsz kq ks hal hGa hBa HK HG HB0
    go_upto_region 8 with (first | (at_builtin; refine wpList_append_own _ rfl (.tmp 23) (.tmp 27) 113 rfl (Z + 1) 118 i0 _ 10 136 Try.underlying113 hi hz0 hz1 hz2 rfl (by omega) (.slice A k c) k _ rfl hown ⟨wr.heap.size, 0, none⟩ 1 1 (stc (seat0 k) nil3) rfl rfl hnews hones h63 (by omega) hbase ?_; intro v' w' g1 g2 g3; obtain ⟨A', c', hv'⟩ := own_form g1; subst hv'; have kq2 := HKQ.out.grown g2 (own_blk_ne' hown HKQ.out (by decide)); have q1' := kq2.cell 1; have q1f' := kq2.frozen 1; have lq' := kq2.lt))
    have hs2 := kq2.set_ 1 (.slice A' (k + 1) c')
    have hB0 := HBa.out.trans (below_grown g2 (by rw [HSZ.out]; have := HB0s.out; omega) (fun b hb => by have := own_ge hown b hb; have := HBZ.out; omega))
    have hg2 : ShG w' (fun k => B ≤ k ∧ k < Z) sq shN none 1 0 tz := ⟨HGa.out.mem.only (Only.of_grown g2) (fun b hb e => by have := own_ge hown b e; omega), HGa.out.inv⟩
    have hg3 : ShG (w'.setCell ⟨Z, 1, none⟩ (.slice A' (k + 1) c')) (fun k => B ≤ k ∧ k < Z) sq shN none 1 0 tz := ⟨hg2.mem.only (Only.setSelf _ _ _ _) (fun b hb e => by have := hb.2; omega), hg2.inv⟩
    have ho3 := ownsRow_setCell_below g1 (a := ⟨Z, 1, none⟩) (Nat.lt_succ_self Z) (.slice A' (k + 1) c')
    rw [← rowN] at ho3
    have hb3 := hB0.setCell (p := ⟨Z, 1, none⟩) HBZ.out (.slice A' (k + 1) c')
    go_wp2_with fail
    refine ⟨⟨k + 1, A', c', by omega, ?_, Lib.hid hs2, Lib.hid ho3, Lib.hid hg3, Lib.hid hb3, Lib.hid hs2.lt⟩, ?_⟩
    · rw [Int.natCast_succ]
    · simp only [intOf]
      omega
  · have hkn : k = n := by omega
    subst hkn
    have q1 := HK.out.cell 1
    have q1f := HK.out.frozen 1
    have lq := HK.out.lt
    go_wp2_with fail
    go_ret2
    have hX : (seatsN k).length = k := by rw [seatsN, List.length_map, List.length_range]
    have hEl : (List.replicate k nil3).length = (seatsN k).length := by rw [List.length_replicate, hX]
    have hRL : (rowW (seatsN k) (List.replicate k nil3)).length = k * 10 := by rw [rowW_len _ _ hEl, hX]
    rcases HOW.out.2 with ⟨_, hk0⟩ | ⟨g, cap, cur, hv, hg, hh, hnc, hcm, hsz, htk⟩
    · omega
    · injection hv with hA hk_ hc_
      subst hA
      subst hc_
      obtain ⟨RW, hRW⟩ : ∃ RW, rowW (seatsN k) (List.replicate k nil3) = RW := ⟨_, rfl⟩
      have hcur : cur = (RW ++ cur.toList.drop (k * 10)).toArray := by
       rw [← hRW, ← htk, List.take_append_drop]
      have hE : ∀ (i : Nat) a, (List.replicate k nil3)[i]? = some a → a = nil3 := fun i a ha => by
       have := List.mem_of_getElem? ha
       exact (List.mem_replicate.1 this).2
      have hmm : WdM wr (fun j => B ≤ j ∧ j < Z) Z sq g c (List.replicate k nil3) (cur.toList.drop (k * 10)) shN (seatsN k) 0 0 := by
       refine ⟨by omega, by omega, ?_, ?_, by rw [hX]; exact hnc, hcm, hEl, ?_, ?_, HG.out⟩
       · rw [wdc, hX]
         exact HK.out
       · rw [hRW, ← hcur]
         exact hh
       · intro i x a hx ha
         have := hE i a ha
         subst this
         have hx0 : x = seat0 i := by
          rw [seatsN, List.getElem?_map] at hx
          obtain ⟨y, hy, he⟩ := Option.map_eq_some_iff.1 hx
          have hi : i < k := by have := (List.getElem?_eq_some_iff.1 hy).1; rw [List.length_range] at this; exact this
          rw [List.getElem?_range hi] at hy
          rw [← he, Option.some.inj hy]
         subst hx0
         have hd : DtW wr (fun j => B ≤ j ∧ j < Z) (none, 0, 0) [] := ⟨World.ownsRow_nil _ _ _ _, fun j hj => by cases hj⟩
         exact ⟨hd, hd, Nat.zero_le _, .inl ⟨rfl, rfl, fun hp => absurd hp (by decide)⟩⟩
       · intro i j a b ha hb hij g1 hg1
         have := hE i a ha
         subst this
         cases hg1
      exact ⟨Z, sq, g, c, _, _, rfl, hmm, fun j hj => ⟨by rw [hB]; exact hj.1, by have := HZU.out; have := hj.2; omega⟩, ⟨by rw [hB]; exact HBZ.out, HZU.out⟩, ⟨by rw [hB]; have := HBZ.out; omega, hmm.kg.lt⟩, WI.new k h1 h4, by rw [hB]; exact HB0.out⟩
end Go.Proofs.Ytokngfinnieccaa
namespace Go.Proofs.Ytokngfinnieccaa
open Go.ChangeShapes Go.WideShapes Go.RowKit Go.Joins Go.Deep
set_option linter.unusedVariables false
set_option linter.unusedSimpArgs false
set_option maxRecDepth 100000
set_option maxHeartbeats 4000000
def slv (s : Sl) : Value := .slice s.1 s.2.1 s.2.2
def RdS (w : World) (B : Nat) (A : Option Addr) (n c : Nat) (ss : List Sl) : Prop := n = ss.length ∧ Rd w B 1 A n c (ss.map slv)
theorem RdS.below {w w' : World} {B n c : Nat} {A : Option Addr} {l : List Sl} (h : RdS w B A n c l) (hb : Below B w w') : RdS w' B A n c l := ⟨h.1, h.2.below hb⟩
theorem RdS.at_ {w : World} {B n c : Nat} {A : Option Addr} {l : List Sl} (h : RdS w B A n c l) {k : Nat} {s : Sl} (hk : l[k]? = some s) :
 ∃ b o, A = some ⟨b, o, none⟩ ∧ b < B ∧ w.cell? ⟨b, o + k, none⟩ = some (.slice s.1 s.2.1 s.2.2) := by
 have hkl : k < l.length := (List.getElem?_eq_some_iff.1 hk).1
 obtain ⟨b, o, e, hb, hc⟩ := h.2.2.2.2 (by rw [h.1]; omega)
 exact ⟨b, o, e, hb, hc k _ (by rw [List.getElem?_map, hk]; rfl)⟩
def RdL (w : World) (B : Nat) (ss : List Sl) (l : List (List Int)) : Prop := ss.length = l.length ∧ ∀ (k : Nat) s x, ss[k]? = some s → l[k]? = some x → RdI w B s.1 s.2.1 s.2.2 x
def RdD (w : World) (B : Nat) (ss : List Sl) (l : List (List Pt)) : Prop := ss.length = l.length ∧ ∀ (k : Nat) s x, ss[k]? = some s → l[k]? = some x → RdP w B s.1 s.2.1 s.2.2 x
def IsRows (w : World) (v : Value) (l : List (List Int)) : Prop := ∃ A n c ss, v = .slice A n c ∧ RdS w w.heap.size A n c ss ∧ RdL w w.heap.size ss l
section
variable {H : Type} {enc : TypeId × Value → H} {w : World} {base : Nat} {spare : Nat → Bool} {held : Bool}
theorem read_intsW {fuel : Nat} {v : Value} {x : DataW H × List MemPlace} (h : DataW.trod enc Try.prog w base spare held fuel 33 [v] = some x) : ∃ A n c l, v = .slice A n c ∧ RdI w w.heap.size A n c l := by
 rcases open_ints Try.underlying33 Try.underlying3 (by kernel_rfl) h with ⟨hc, _⟩ | ⟨a, len, cap, zs, hc, _, h1, h2, h3, _, h4, _⟩
 · simp only [List.cons.injEq, and_true] at hc
   exact ⟨_, _, _, [], hc, rfl, Rd.nil _ _ _⟩
 · simp only [List.cons.injEq, and_true] at hc
   have hl : len ≤ zs.length := by rw [h3]; split <;> omega
   have hl2 : (zs.take len).length = len := by rw [List.length_take]; omega
   refine ⟨_, _, _, zs.take len, hc, hl2.symm, rd_of (by omega) h1 h2 (by rw [ic_len, hl2, Nat.mul_one]) fun j u hj => ?_⟩
   have hjl : j < len := by
    rcases Nat.lt_or_ge j (ic (zs.take len)).length with hlt | hge
    · rw [ic_len, hl2] at hlt; exact hlt
    · rw [List.getElem?_eq_none hge] at hj; cases hj
   rw [ic_at _ j (by omega)] at hj
   injection hj with hj
   rw [h4 j (by omega), ← hj]
   simp [List.getD_eq_getElem?_getD, List.getElem?_eq_getElem (show j < zs.length by omega)]
theorem rdS_of {a : Addr} {len cap m : Nat} {ss : List Sl} (hl : ss.length = len) (h0 : 0 < 1) (h1 : len ≤ cap) (h2 : cap ≤ maxLen) (h : ∀ i s, ss[i]? = some s → w.cell? (a.add i) = some (slv s)) : RdS w w.heap.size (some a) len cap ss := by
 refine ⟨hl.symm, rd_of h0 h1 h2 (by rw [List.length_map, hl, Nat.mul_one]) fun j u hj => ?_⟩
 rw [List.getElem?_map] at hj
 obtain ⟨s, hs, e⟩ := Option.map_eq_some_iff.1 hj
 rw [← e]
 exact h j s hs
theorem open_rows_said {r : Reach} {b0 : Nat} {v : Value} {d : DataW H} {p : List MemPlace} (hv : Value.okWide Try.prog w r b0 39 v) (h : DataW.Trod enc Try.prog w base spare held 39 v d p) (_ : ∀ x ∈ p, x.block < w.heap.size)
 (hb : ∀ x ∈ DataW.weights Try.prog 39 d, x ≤ 140737488351232) : ∃ x, IsRows w v x := by
 obtain ⟨A0, n0, c0, rfl⟩ := okWide_slice Try.underlying39 hv
 obtain ⟨fuel, hf⟩ := h
 rcases open_slice1 Try.underlying39 (by kernel_rfl) hf with ⟨hc, _⟩ | ⟨a, len, cap, m, n, V, D, Pl, hc, _, h1, h2, h3, hx, h4⟩
 · have hc := (List.cons.inj hc).1
   exact ⟨[], _, _, _, [], hc, ⟨rfl, Rd.nil _ _ _⟩, rfl, fun k s x h => by cases h⟩
 · have hc := (List.cons.inj hc).1
   have hl : len ≤ m := by rw [h3]; split <;> omega
   have h5 : ∀ i, i < len → ∃ p : Sl × List Int, w.cell? (a.add i) = some (slv p.1) ∧ RdI w w.heap.size p.1.1 p.1.2.1 p.1.2.2 p.2 := by
    intro i hi
    obtain ⟨hcell, ht⟩ := h4 i (by omega)
    obtain ⟨A, n, c, l, e, hr⟩ := read_intsW ht
    exact ⟨((A, n, c), l), by rw [hcell, e]; rfl, hr⟩
   obtain ⟨l, hll, hp⟩ := pick_lt (((none, 0, 0), []) : Sl × List Int) h5
   refine ⟨l.map (·.2), _, _, _, l.map (·.1), hc, rdS_of (m := m) (by rw [List.length_map, hll]) (by decide) h1 h2 fun i s hs => ?_, by simp, fun k s x e1 e2 => ?_⟩
   · rw [List.getElem?_map] at hs
     obtain ⟨y, hy, e⟩ := Option.map_eq_some_iff.1 hs
     obtain ⟨hi, e2⟩ := List.getElem?_eq_some_iff.1 hy
     rw [← e, ← e2]
     exact (hp i hi).1
   · rw [List.getElem?_map] at e1 e2
     obtain ⟨y, hy, e⟩ := Option.map_eq_some_iff.1 e1
     obtain ⟨hi, e3⟩ := List.getElem?_eq_some_iff.1 hy
     rw [hy] at e2
     have e2 := Option.some.inj e2
     rw [← e, ← e2, ← e3]
     exact (hp k hi).2
end
end Go.Proofs.Ytokngfinnieccaa
namespace Go.Proofs.Ytokngfinnieccaa
open Go.ChangeShapes Go.WideShapes Go.RowKit
set_option linter.unusedVariables false
set_option linter.unusedSimpArgs false
set_option maxRecDepth 100000
set_option maxHeartbeats 4000000
def wi (k : Int) (n : Nat) : Nat := (IntKind.u64.wrap k).toNat % n
theorem wi_lt (k : Int) (n : Nat) (h : 0 < n) : wi k n < n := Nat.mod_lt _ h
theorem within_any (k : Int) (n : Nat) (w : World) (h1 : 0 < n) (h2 : (n : Int) ≤ 1000000000000000000) :
 Calls Try.prog 21 #[.int .i64 k, .int .i64 n] w fun e w' => e = .returned (.int .i64 (wi k n)) ∧ w = w' := by
 go_enter Try.func21, Try.ntmps21
 go_wp2_with fail
 go_ret
 refine ⟨?_, rfl⟩
 have h0 : 0 ≤ IntKind.u64.wrap k := by
  simp only [IntKind.wrap, IntKind.signed, IntKind.bits]
  exact Int.emod_nonneg _ (by decide)
 obtain ⟨x, hx⟩ := Int.eq_ofNat_of_zero_le h0
 have hlt : x % n < n := Nat.mod_lt _ h1
 have e : wrap64 ((IntKind.u64.wrap k).tmod n) = (wi k n : Int) := by
  unfold wi
  rw [hx, Int.toNat_natCast, show (x : Int).tmod n = ((x % n : Nat) : Int) from rfl]
  exact IntWalk.wrap64_in _ ⟨by omega, by omega⟩
 show Ending.returned (.int .i64 (wrap64 ((IntKind.u64.wrap k).tmod n))) = _
 rw [e]
def WdB (w : World) (B q : Nat) (s : Sh) (X : List St) (put edits : Int) (e : Nat → Nat) : Prop := WdI w (fun k => B ≤ k) q s X put edits e
def kOf : List Int → Nat
 | [] => 0
 | a :: _ => wi a 3
def iOf (n : Nat) : List Int → Nat
 | _ :: b :: _ => wi b n
 | _ => 0
section
variable {w w' : World} {B q : Nat} {s : Sh} {X : List St} {put edits : Int} {e : Nat → Nat}
theorem WdB.pos (h : WdB w B q s X put edits e) : 0 ≤ put ∧ 0 ≤ edits := by
 have h1 := h.2.byt
 have h2 := h.2.cnt
 constructor <;> omega
end
theorem wput_any (s : ByteArray) (hs : s.size ≤ 140737488351232) (w : World) :
 Calls Try.prog 52 #[.string s] w fun e w' => ∃ A, e = .returned (.slice A 1 1) ∧ RdP w' w'.heap.size A 1 1 [(2, 0, s)] ∧ (∀ ad, A = some ad → w.heap.size ≤ ad.block) ∧ Below w.heap.size w w' := by
 have hr := RdP.built w #[.int .i64 2, .int .i64 0, .string s] [(2, 0, s)] 1 rfl rfl (by decide) (by simpa using hs)
 have Hr := Lib.hid hr
 clear hr
 go_enter Try.func52, Try.ntmps52
 go_wp2_with fail
 go_ret
 exact ⟨_, rfl, by simpa using Hr.out, fun ad e => by injection e with e; subst e; exact Nat.le_refl _, (Below.refl _ _).alloc (Nat.le_refl _) _⟩
theorem chk_a : doE [(2, 0, ⟨#[97]⟩)] emp = 0 := by decide +kernel
theorem nP_a : nP (units [(2, 0, ⟨#[97]⟩)]) = 1 := by decide +kernel
theorem wclient_any (w : World) (F : Nat → Prop) (q sq gs cap : Nat) (E : List (Sl × Sl × Sl)) (sp : List Value) (s : Sh) (X : List St) (put edits : Int) (h : WdM w F q sq gs cap E sp s X put edits) (i : Nat) (x : St) (hx : X[i]? = some x) (hck : CkOk x.c) :
 Calls Try.prog 57 #[.pointer (some ⟨q, 0, none⟩), .int .i64 i] w fun e w' => ∃ A1 n1 c1 A2 n2 c2, e = .returned (.tuple #[clv x.c (A1, n1, c1) (A2, n2, c2), .int .i64 0]) ∧ OwnP w' w.heap.size (.slice A1 n1 c1) x.c.sent ∧ OwnP w' w.heap.size (.slice A2 n2 c2) x.c.held ∧ Below w.heap.size w w' := by
 have hal := (Below.refl w.heap.size w).alloc (Nat.le_refl _) (.cells #[.int .i64 0, .int .i64 0, .int .i64 0, .string ⟨#[]⟩, .bool false, .slice none 0 0, .bool false, .slice none 0 0] 92)
 have kz0 := Blk.new w 92 #[.int .i64 0, .int .i64 0, .int .i64 0, .string ⟨#[]⟩, .bool false, .slice none 0 0, .bool false, .slice none 0 0]
 have hM := h.below hal
 obtain ⟨W, hW⟩ : ∃ W, w.alloc (.cells #[.int .i64 0, .int .i64 0, .int .i64 0, .string ⟨#[]⟩, .bool false, .slice none 0 0, .bool false, .slice none 0 0] 92) = W := ⟨_, rfl⟩
 rw [hW] at hal kz0 hM
 obtain ⟨N, hN⟩ : ∃ N, X.length = N := ⟨_, rfl⟩
 have hkq := hM.kq
 have hc1 := hM.c1
 have hc2 := hM.c2
 rw [hN] at hkq hc1
 have hcp : (N : Int) ≤ (cap : Int) := by omega
 have hcm : (cap : Int) ≤ 9223372036854775807 := by simp only [maxLen] at hc2; omega
 have hN0 : (0 : Int) ≤ (N : Int) := by omega
 have q0 : W.cell? ⟨q, 0, none⟩ = some (.pointer (some ⟨sq, 0, none⟩)) := hkq.cell 0
 have q1 : W.cell? ⟨q, 1, none⟩ = some (.slice (some ⟨gs, 0, none⟩) N cap) := hkq.cell 1
 have lq := hkq.lt
 have lg := hM.kg.lt
 have hiN : i < N := by rw [← hN]; exact (List.getElem?_eq_some_iff.1 hx).1
 have hi0 : (0 : Int) ≤ (i : Int) := by omega
 have hiN' : (i : Int) < (N : Int) := by omega
 obtain ⟨⟨⟨a1, a2, a3⟩, ⟨b1, b2, b3⟩, ⟨u1, u2, u3⟩⟩, ha, hs, hat⟩ := hM.at_ hx
 obtain ⟨ct1, ct2⟩ := ckok_txt hck
 obtain ⟨cn1, cn2⟩ := ckok_len hck
 have Hr := Lib.hid (client_rng hat)
 obtain ⟨z, hz⟩ : ∃ z, w.heap.size = z := ⟨_, rfl⟩
 have hS : RdP W W.heap.size a1 a2 a3 x.c.sent := rdS_ (hs.s.1) ct1
 have hH : RdP W W.heap.size b1 b2 b3 x.c.held := rdS_ (hs.h.1) ct2
 have hsn : a2 ≤ 4000000 := by have := hS.1; omega
 have hhn : b2 ≤ 4000000 := by have := hH.1; omega
 have HS := Lib.hid hS
 have HH := Lib.hid hH
 have HAL := Lib.hid hal
 have KZ0 := Lib.hid kz0
 clear hat hs ha hkq hc1 hc2 h hM hx hN hS hH ct1 ct2 cn1 cn2 hck hal kz0
 go_enter Try.func57, Try.ntmps57
 go_upto_region 1 with (fail)
 try rw [hW]
 clear hW
 rw [hz] at HAL KZ0
 try rw [hz]
 clear q0
 have HZw := Lib.hid hz
 clear hz
 go_upto_region 4 with (first | (refine wpList_load_mid rfl _ (.tmp 25) rfl gs (i * 10) rfl [.int .i64 x.c.who, .int .i64 x.c.rev, .int .i64 x.c.seq, .string x.c.text, .bool x.c.fly, .slice a1 a2 a3, .bool x.c.wait, .slice b1 b2 b3] _ Hr.out Try.underlying92 rfl client_info ?_) | (refine wpList_store_blk rfl _ (.tmp 6) (.tmp 26) rfl W.heap.size #[.int .i64 x.c.who, .int .i64 x.c.rev, .int .i64 x.c.seq, .string x.c.text, .bool x.c.fly, .slice a1 a2 a3, .bool x.c.wait, .slice b1 b2 b3] rfl rfl _ _ (Blk.new W _ _) client_info rfl (by simp [Value.oneCell']) ?_))
 have kc := (Blk.new W 92 #[.int .i64 0, .int .i64 0, .int .i64 0, .string ⟨#[]⟩, .bool false, .slice none 0 0, .bool false, .slice none 0 0]).row #[.int .i64 x.c.who, .int .i64 x.c.rev, .int .i64 x.c.seq, .string x.c.text, .bool x.c.fly, .slice a1 a2 a3, .bool x.c.wait, .slice b1 b2 b3]
 have hal := below_setRow ((Below.refl W.heap.size W).alloc (Nat.le_refl _) (.cells #[.int .i64 0, .int .i64 0, .int .i64 0, .string ⟨#[]⟩, .bool false, .slice none 0 0, .bool false, .slice none 0 0] 92)) W.heap.size #[.int .i64 x.c.who, .int .i64 x.c.rev, .int .i64 x.c.seq, .string x.c.text, .bool x.c.fly, .slice a1 a2 a3, .bool x.c.wait, .slice b1 b2 b3] (Nat.le_refl _)
 obtain ⟨V, hV⟩ : ∃ V, (W.alloc (.cells #[.int .i64 0, .int .i64 0, .int .i64 0, .string ⟨#[]⟩, .bool false, .slice none 0 0, .bool false, .slice none 0 0] 92)).setRow W.heap.size #[.int .i64 x.c.who, .int .i64 x.c.rev, .int .i64 x.c.seq, .string x.c.text, .bool x.c.fly, .slice a1 a2 a3, .bool x.c.wait, .slice b1 b2 b3] = V := ⟨_, rfl⟩
 obtain ⟨g, hg⟩ : ∃ g, W.heap.size = g := ⟨_, rfl⟩
 have hS1 := Lib.hid (HS.out.step (hV ▸ hal))
 have kr : Blk V z 92 #[.int .i64 0, .int .i64 0, .int .i64 0, .string ⟨#[]⟩, .bool false, .slice none 0 0, .bool false, .slice none 0 0] := KZ0.out.below (hV ▸ hal) KZ0.out.lt
 rw [hV] at kc hal ⊢
 have hzg : z < g := by rw [← hg]; exact KZ0.out.lt
 have hb0 : Below z w V := HAL.out.trans (hal.mono (by omega))
 have HHg := HH.out
 rw [hg] at kc HHg hal
 have HHg := Lib.hid HHg
 have hbg := hal
 try rw [hg]
 clear hV hal q1 lq lg Hr HS HH HAL KZ0 hg
 have c5 := kc.cell 5
 have cl := kc.lt
 have hgV : z ≤ V.heap.size := by omega
 have hggV : g ≤ V.heap.size := by have := kc.lt; omega
 have hggl : g < V.heap.size := kc.lt
 go_upto_region 5 with (first | (at_builtin; go_loud (refine wpList_app_partsC _ rfl (.const (.slice none 0 0)) (.tmp 28) rfl V.heap.size _ [] rfl (OwnP.nil _ _) a1 a2 a3 _ x.c.sent rfl hS1.out (by simp; omega) (Nat.le_refl _) ?_; intro v1 w1 q1 q2; rw [List.nil_append] at q1; obtain ⟨A1, c1, rfl⟩ := q1.form_ (n := a2) hS1.out.1.symm; have e1 := kc.below q2 kc.lt; have d5 := e1.cell 5; have f5 := e1.frozen 5; have l1 := e1.lt)))
 have hb2 : Below z w (w1.setCell ⟨g, 5, none⟩ (.slice A1 a2 c1)) := (hb0.trans (q2.mono hgV)).setCell (p := ⟨g, 5, none⟩) (Nat.le_of_lt hzg) _
 have kc2 : Blk (w1.setCell ⟨g, 5, none⟩ (.slice A1 a2 c1)) g 92 #[.int .i64 x.c.who, .int .i64 x.c.rev, .int .i64 x.c.seq, .string x.c.text, .bool x.c.fly, .slice A1 a2 c1, .bool x.c.wait, .slice b1 b2 b3] := e1.set_ 5 _
 have kr2 : Blk (w1.setCell ⟨g, 5, none⟩ (.slice A1 a2 c1)) z 92 #[.int .i64 0, .int .i64 0, .int .i64 0, .string ⟨#[]⟩, .bool false, .slice none 0 0, .bool false, .slice none 0 0] := (kr.below q2 kr.lt).far (p := ⟨g, 5, none⟩) (by simp only; omega) _
 have hW2 : V.heap.size ≤ (w1.setCell ⟨g, 5, none⟩ (.slice A1 a2 c1)).heap.size := by simp; exact q2.size
 have o2 := Lib.hid (own_only q1 (Only.setSelf w1 g 5 (.slice A1 a2 c1)) (fun k hk => by have := (World.ownsRow.lt q1 k hk).1; omega))
 have hbg2 : Below g W (w1.setCell ⟨g, 5, none⟩ (.slice A1 a2 c1)) := (hbg.trans (q2.mono hggV)).setCell (p := ⟨g, 5, none⟩) (Nat.le_refl g) _
 have hH2 := Lib.hid ((HHg.out.below hbg2).more (by have := hW2; omega))
 clear e1 d5 f5 l1 c5 cl q1 hb0 kc kr hS1
 obtain ⟨W2, hW2e⟩ : ∃ W2, (w1.setCell ⟨g, 5, none⟩ (.slice A1 a2 c1)) = W2 := ⟨_, rfl⟩
 rw [hW2e] at hb2 kc2 kr2 hW2 o2 hH2 hbg2 ⊢
 clear hW2e
 have c7 := kc2.cell 7
 have cl := kc2.lt
 have hgW2 : z ≤ W2.heap.size := by omega
 have hgl2 : g < W2.heap.size := kc2.lt
 go_upto_region 6 with (first | (at_builtin; go_loud (refine wpList_app_partsC _ rfl (.const (.slice none 0 0)) (.tmp 32) rfl W2.heap.size _ [] rfl (OwnP.nil _ _) b1 b2 b3 _ x.c.held rfl hH2.out (by simp; omega) (Nat.le_refl _) ?_; intro v2 w2 q1 q3; rw [List.nil_append] at q1; obtain ⟨A2, c2, rfl⟩ := q1.form_ (n := b2) hH2.out.1.symm; have e1 := kc2.below q3 kc2.lt; have d7 := e1.cell 7; have f7 := e1.frozen 7; have l1 := e1.lt)))
 have hb3 : Below z w (w2.setCell ⟨g, 7, none⟩ (.slice A2 b2 c2)) := (hb2.trans (q3.mono hgW2)).setCell (p := ⟨g, 7, none⟩) (Nat.le_of_lt hzg) _
 have kc3 : Blk (w2.setCell ⟨g, 7, none⟩ (.slice A2 b2 c2)) g 92 #[.int .i64 x.c.who, .int .i64 x.c.rev, .int .i64 x.c.seq, .string x.c.text, .bool x.c.fly, .slice A1 a2 c1, .bool x.c.wait, .slice A2 b2 c2] := e1.set_ 7 _
 have kr3 : Blk (w2.setCell ⟨g, 7, none⟩ (.slice A2 b2 c2)) z 92 #[.int .i64 0, .int .i64 0, .int .i64 0, .string ⟨#[]⟩, .bool false, .slice none 0 0, .bool false, .slice none 0 0] := (kr2.below q3 kr2.lt).far (p := ⟨g, 7, none⟩) (by simp only; omega) _
 have o3 := Lib.hid (own_only (own_below o2.out q3) (Only.setSelf w2 g 7 (.slice A2 b2 c2)) (fun k hk => by have := (World.ownsRow.lt o2.out k hk).1; omega))
 have o4 := Lib.hid (own_only q1 (Only.setSelf w2 g 7 (.slice A2 b2 c2)) (fun k hk => by have := (World.ownsRow.lt q1 k hk).1; omega))
 clear e1 d7 f7 l1 c7 cl q1 hb2 kc2 kr2 hH2 o2
 obtain ⟨W3, hW3e⟩ : ∃ W3, (w2.setCell ⟨g, 7, none⟩ (.slice A2 b2 c2)) = W3 := ⟨_, rfl⟩
 rw [hW3e] at hb3 kc3 kr3 o3 o4 ⊢
 clear hW3e
 go_wp2_with (first
  | (refine wpList_load_blk rfl _ (.tmp 6) rfl g rfl _ (client_row kc3 rfl) ?_)
  | (refine wpList_store_blk rfl _ (.tmp 4) (.tmp 35) rfl z _ rfl rfl _ _ kr3 client_info rfl (by simp [Value.oneCell']) ?_))
 refine row_end2 rfl rfl rfl rfl (client_row (kr3.row #[.int .i64 x.c.who, .int .i64 x.c.rev, .int .i64 x.c.seq, .string x.c.text, .bool x.c.fly, .slice A1 a2 c1, .bool x.c.wait, .slice A2 b2 c2]) rfl) ?_
 refine ⟨_, _, _, _, _, _, rfl, ?_, ?_, HZw.out.symm ▸ below_setRow hb3 z _ (Nat.le_refl _)⟩
 · exact own_base (own_only o3.out (Only.setRow W3 z _) (fun k hk => by have := (World.ownsRow.lt o3.out k hk).1; omega)) (by rw [HZw.out]; omega)
 · exact own_base (own_only o4.out (Only.setRow W3 z _) (fun k hk => by have := (World.ownsRow.lt o4.out k hk).1; omega)) (by rw [HZw.out]; omega)
end Go.Proofs.Ytokngfinnieccaa
