/- Contracts of part.Maker's methods: Cut, Put, flush, Keep, Done. scrivkeep's helpers over room: spoil. A delta gone through, and two of them: runs of units; plain lists, no program. -/
import Derived.Test.YtfncpcmaplhojaaMTierOwn4
import Derived.Test.YtfncpcmaplhojaaMTierOwn3
namespace Go.Proofs.Ytfncpcmaplhojaa
open Go.ChangeShapes Go.WideShapes Go.RowKit
set_option linter.unusedVariables false
set_option linter.unusedSimpArgs false
set_option maxRecDepth 100000
set_option maxHeartbeats 4000000

theorem mcut_raw (g : Nat) (v : Value) (p : ByteArray) (c n : Int) (w : World) (h : Blk w g 165 #[v, .string p, .int .i64 c]) (h0 : 0 ≤ c) (h1 : c ≤ 100000000) (h2 : 0 ≤ n) (h3 : n ≤ 100000000) :
    Calls Try.prog 92 #[.pointer (some ⟨g, 0, none⟩), .int .i64 n] w fun e w' => e = .returned (.tuple #[]) ∧ w' = w.setCell ⟨g, 2, none⟩ (.int .i64 (c + n)) := by
  have c2 := h.cell 2
  have f2 := h.frozen 2
  have hl := h.lt
  clear h
  go_enter Try.func92, Try.ntmps92
  go_wp2_with fail
  go_end0
  exact ⟨rfl, rfl⟩
theorem mput_raw (g : Nat) (v : Value) (p s : ByteArray) (c : Int) (w : World) (h : Blk w g 165 #[v, .string p, .int .i64 c]) (h1 : p.size ≤ 100000000) (h2 : s.size ≤ 100000000) :
    Calls Try.prog 93 #[.pointer (some ⟨g, 0, none⟩), .string s] w fun e w' => e = .returned (.tuple #[]) ∧ w' = w.setCell ⟨g, 1, none⟩ (.string (p ++ s)) := by
  have c1 := h.cell 1
  have f1 := h.frozen 1
  have hl := h.lt
  clear h
  go_enter Try.func93, Try.ntmps93
  go_wp2_with fail
  go_end0
  exact ⟨rfl, rfl⟩
theorem mcut_any {B g : Nat} {ob : Option Nat} {us : List U} {w : World} (n : Int) (h : Mk w B g ob us) (hl : us.length ≤ 100000000) (h2 : 0 ≤ n) (h3 : n ≤ 100000000) :
    Calls Try.prog 92 #[.pointer (some ⟨g, 0, none⟩), .int .i64 n] w fun e w' => e = .returned (.tuple #[]) ∧ Mk w' B g ob (us ++ cu n) ∧ Only w w' (fun k => k = g ∨ ob = some k) := by
  obtain ⟨o, p, c, ⟨v, hb, ho, hob⟩, hr⟩ := h
  obtain ⟨_, _, h4, h5, _, _⟩ := hr.bounds
  refine (mcut_raw g v p c n w hb h4 (by omega) h2 h3).mono ?_
  rintro e w' ⟨rfl, rfl⟩
  have hs : Only w (w.setCell ⟨g, 2, none⟩ (.int .i64 (c + n))) (fun k => k = g) := Only.setCell _ _ _ rfl
  refine ⟨rfl, ⟨o, p, c + n, ⟨v, hb.set_ 2 _, ?_, hob⟩, hr.cut h2⟩, hs.mono fun k _ h => .inl h⟩
  exact own_only ho hs fun k hk he => own_blk_ne (t := 165) ho hb (by decide) (by rw [hk, he])
theorem mput_any {B g : Nat} {ob : Option Nat} {us : List U} {w : World} (s : ByteArray) (h : Mk w B g ob us) (hl : us.length ≤ 100000000) (h3 : s.size ≤ 100000000) :
    Calls Try.prog 93 #[.pointer (some ⟨g, 0, none⟩), .string s] w fun e w' => e = .returned (.tuple #[]) ∧ Mk w' B g ob (us ++ pu s) ∧ Only w w' (fun k => k = g ∨ ob = some k) := by
  obtain ⟨o, p, c, ⟨v, hb, ho, hob⟩, hr⟩ := h
  obtain ⟨_, h4, _, _, _, _⟩ := hr.bounds
  refine (mput_raw g v p s c w hb (by omega) h3).mono ?_
  rintro e w' ⟨rfl, rfl⟩
  have hs : Only w (w.setCell ⟨g, 1, none⟩ (.string (p ++ s))) (fun k => k = g) := Only.setCell _ _ _ rfl
  refine ⟨rfl, ⟨o, p ++ s, c, ⟨v, hb.set_ 1 _, ?_, hob⟩, hr.put s⟩, hs.mono fun k _ h => .inl h⟩
  exact own_only ho hs fun k hk he => own_blk_ne (t := 165) ho hb (by decide) (by rw [hk, he])

/-- what flush leaves -/
def FlP (w : World) (B g : Nat) (ob : Option Nat) (o : List Pt) (w' : World) : Prop := ∃ ob', MkS w' B g ob' o emp 0 ∧ MFr w w' g ob ob'
theorem MFr.refl (w : World) (g : Nat) (ob : Option Nat) : MFr w w g ob ob := ⟨Only.refl _ _, .inl rfl⟩
theorem MFr.trans {w w' w'' : World} {g : Nat} {a b c : Option Nat} (h : MFr w w' g a b) (h' : MFr w' w'' g b c) : MFr w w'' g a c := by
  obtain ⟨h1, h2⟩ := h
  obtain ⟨h3, h4⟩ := h'
  have hsz := h1.2.2.2.1
  refine ⟨?_, ?_⟩
  · refine ⟨h3.1.trans h1.1, h3.2.1.trans h1.2.1, h3.2.2.1.trans h1.2.2.1, Nat.le_trans hsz h3.2.2.2.1, fun k hk hs => ?_⟩
    refine (h3.2.2.2.2 k (by omega) ?_).trans (h1.2.2.2.2 k hk hs)
    rintro (rfl | hb)
    · exact hs (.inl rfl)
    · rcases h2 with rfl | h2
      · exact hs (.inr hb)
      · have := h2 k hb; omega
  · rcases h4 with rfl | h4
    · exact h2
    · exact .inr fun k hk => Nat.le_trans hsz (h4 k hk)
theorem MFr.of_only {w w' : World} {g : Nat} {ob : Option Nat} (h : Only w w' (fun k => k = g)) : MFr w w' g ob ob := ⟨h.mono fun _ _ h => .inl h, .inl rfl⟩
theorem fl_app {w w1 : World} {B g : Nat} {ob : Option Nat} {v v1 P C : Value} {o o1 : List Pt} (hb : Blk w g 165 #[v, P, C]) (ho : OwnP w B v o) (hob : v.ownBlock = ob) (h1 : OwnP w1 B v1 o1) (h3 : w.grownBy w1 v.ownBlock)
    (h4 : v1.ownBlock = v.ownBlock ∨ v1.ownBlock = some (w.heap.size + 1)) :
    Blk (w1.setCell ⟨g, 0, none⟩ v1) g 165 #[v1, P, C] ∧ OwnP (w1.setCell ⟨g, 0, none⟩ v1) B v1 o1 ∧ MFr w (w1.setCell ⟨g, 0, none⟩ v1) g ob v1.ownBlock := by
  subst hob
  have hne : some g ≠ v.ownBlock := Ne.symm (own_blk_ne (t := 165) ho hb (by decide))
  have hb1 := hb.grown h3 hne
  have hs := Only.setSelf w1 g 0 v1
  refine ⟨hb1.set_ 0 v1, own_only h1 hs fun k hk he => own_blk_ne (t := 165) h1 hb1 (by decide) (by rw [hk, he]), ?_, ?_⟩
  · exact ((Only.of_grown h3).mono fun k _ h => .inr h).trans (hs.mono fun k _ h => .inl h)
  · rcases h4 with h4 | h4
    · exact .inl h4
    · exact .inr fun k hk => by rw [h4] at hk; injection hk with hk; omega
theorem fl_clear {w : World} {B g : Nat} {v P C : Value} {o : List Pt} (hb : Blk w g 165 #[v, P, C]) (ho : OwnP w B v o) :
    MkS ((w.setCell ⟨g, 1, none⟩ (.string ⟨#[]⟩)).setCell ⟨g, 2, none⟩ (.int .i64 0)) B g v.ownBlock o emp 0 ∧ MFr w ((w.setCell ⟨g, 1, none⟩ (.string ⟨#[]⟩)).setCell ⟨g, 2, none⟩ (.int .i64 0)) g v.ownBlock v.ownBlock := by
  have hs : Only w ((w.setCell ⟨g, 1, none⟩ (.string ⟨#[]⟩)).setCell ⟨g, 2, none⟩ (.int .i64 0)) (fun k => k = g) := (Only.setSelf _ _ _ _).trans (Only.setSelf _ _ _ _)
  exact ⟨⟨v, (hb.set_ 1 _).set_ 2 _, own_only ho hs fun k hk he => own_blk_ne (t := 165) ho hb (by decide) (by rw [hk, he]), rfl⟩, MFr.of_only hs⟩
theorem flush_none (g : Nat) (v : Value) (o : List Pt) (B : Nat) (ob : Option Nat) (c : Int) (w : World) (hb : Blk w g 165 #[v, .string ⟨#[]⟩, .int .i64 c]) (ho : OwnP w B v o) (hob : v.ownBlock = ob) (hc : c ≤ 0) :
    Calls Try.prog 110 #[.pointer (some ⟨g, 0, none⟩)] w fun e w' => e = .returned (.tuple #[]) ∧ FlP w B g ob o w' := by
  have c1 := hb.cell 1
  have f1 := hb.frozen 1
  have c2 := hb.cell 2
  have f2 := hb.frozen 2
  have hl := hb.lt
  have Hb := Lib.hid hb
  have Ho := Lib.hid ho
  have Hob := Lib.hid hob
  clear hb ho hob
  go_enter Try.func110, Try.ntmps110
  go_wp2_with fail
  go_end0
  have hs : Only w ((w.setCell ⟨g, 1, none⟩ (.string ⟨#[]⟩)).setCell ⟨g, 2, none⟩ (.int .i64 0)) (fun k => k = g) := (Only.setSelf _ _ _ _).trans (Only.setSelf _ _ _ _)
  refine ⟨rfl, ob, ⟨v, (Hb.out.set_ 1 _).set_ 2 _, ?_, Hob.out⟩, hs.mono fun k _ h => .inl h, .inl rfl⟩
  exact own_only Ho.out hs fun k hk he => own_blk_ne (t := 165) Ho.out Hb.out (by decide) (by rw [hk, he])
theorem flush_put (g : Nat) (v : Value) (o : List Pt) (B : Nat) (ob : Option Nat) (p : ByteArray) (c : Int) (w : World) (hb : Blk w g 165 #[v, .string p, .int .i64 c]) (ho : OwnP w B v o) (hob : v.ownBlock = ob) (hc : c ≤ 0)
    (hp : p.toList.isEmpty = false) (hlen0 : o.length ≤ 100000000) (hB0 : B ≤ w.heap.size) :
    Calls Try.prog 110 #[.pointer (some ⟨g, 0, none⟩)] w fun e w' => e = .returned (.tuple #[]) ∧ FlP w B g ob (o ++ [(2, 0, p)]) w' := by
  have c0 := hb.cell 0
  have f0 := hb.frozen 0
  have c1 := hb.cell 1
  have f1 := hb.frozen 1
  have c2 := hb.cell 2
  have f2 := hb.frozen 2
  have hl := hb.lt
  obtain ⟨A, cp, hv⟩ := ho.form
  subst hv
  have Hne0 := Lib.hid (Ne.symm (own_blk_ne (t := 165) ho hb (by decide)))
  have Hb0 := Lib.hid hb
  have Ho0 := Lib.hid ho
  have Hob := Lib.hid hob
  clear hb ho hob
  go_enter Try.func110, Try.ntmps110
  go_wp2_with fail
  go_region_law (first | (refine step_app_drew _ rfl (.tmp 11) (.tmp 17) rfl B _ o (by simp [Act.eval, Act.put]) Ho0.out 2 0 p 1 (by simp [Act.eval, Act.put]) (by omega) hB0 ?_; intro v1 w1 g1 g2 g3 g4; obtain ⟨A1, c1', rfl⟩ := g1.form_ (n := o.length + 1) (by simp); have hb1 := Blk.grown Hb0.out g3 Hne0.out; have d0 := hb1.cell 0; have d1 := hb1.cell 1; have d2 := hb1.cell 2; have e0 := hb1.frozen 0; have e1 := hb1.frozen 1; have e2 := hb1.frozen 2; have l1 := hb1.lt))
  all_goals
    have Hb1 := Lib.hid (fl_app Hb0.out Ho0.out Hob.out g1 g3 g4)
    clear hb1 g1 g2 g3 g4
    go_wp2_with fail
    go_end0
    refine ⟨rfl, _, (fl_clear Hb1.out.1 Hb1.out.2.1).1, Hb1.out.2.2.trans (fl_clear Hb1.out.1 Hb1.out.2.1).2⟩
theorem flush_cut (g : Nat) (v : Value) (o : List Pt) (B : Nat) (ob : Option Nat) (c : Int) (w : World) (hb : Blk w g 165 #[v, .string ⟨#[]⟩, .int .i64 c]) (ho : OwnP w B v o) (hob : v.ownBlock = ob) (hc : 0 < c)
    (hlen0 : o.length ≤ 100000000) (hB0 : B ≤ w.heap.size) :
    Calls Try.prog 110 #[.pointer (some ⟨g, 0, none⟩)] w fun e w' => e = .returned (.tuple #[]) ∧ FlP w B g ob (o ++ [(3, c, ⟨#[]⟩)]) w' := by
  have c0 := hb.cell 0
  have f0 := hb.frozen 0
  have c1 := hb.cell 1
  have f1 := hb.frozen 1
  have c2 := hb.cell 2
  have f2 := hb.frozen 2
  have hl := hb.lt
  obtain ⟨A, cp, hv⟩ := ho.form
  subst hv
  have Hne0 := Lib.hid (Ne.symm (own_blk_ne (t := 165) ho hb (by decide)))
  have Hb0 := Lib.hid hb
  have Ho0 := Lib.hid ho
  have Hob := Lib.hid hob
  clear hb ho hob
  go_enter Try.func110, Try.ntmps110
  go_wp2_with fail
  go_region_law (first | (refine step_app_drew _ rfl (.tmp 30) (.tmp 36) rfl B _ o (by simp [Act.eval, Act.put]) Ho0.out 3 c ⟨#[]⟩ 1 (by simp [Act.eval, Act.put]) (by omega) hB0 ?_; intro v1 w1 g1 g2 g3 g4; obtain ⟨A1, c1', rfl⟩ := g1.form_ (n := o.length + 1) (by simp); have hb1 := Blk.grown Hb0.out g3 Hne0.out; have d0 := hb1.cell 0; have d1 := hb1.cell 1; have d2 := hb1.cell 2; have e0 := hb1.frozen 0; have e1 := hb1.frozen 1; have e2 := hb1.frozen 2; have l1 := hb1.lt))
  all_goals
    have Hb1 := Lib.hid (fl_app Hb0.out Ho0.out Hob.out g1 g3 g4)
    clear hb1 g1 g2 g3 g4
    go_wp2_with fail
    go_end0
    refine ⟨rfl, _, (fl_clear Hb1.out.1 Hb1.out.2.1).1, Hb1.out.2.2.trans (fl_clear Hb1.out.1 Hb1.out.2.1).2⟩
theorem flush_both (g : Nat) (v : Value) (o : List Pt) (B : Nat) (ob : Option Nat) (p : ByteArray) (c : Int) (w : World) (hb : Blk w g 165 #[v, .string p, .int .i64 c]) (ho : OwnP w B v o) (hob : v.ownBlock = ob) (hc : 0 < c)
    (hp : p.toList.isEmpty = false) (hlen0 : o.length ≤ 99999999) (hB0 : B ≤ w.heap.size) :
    Calls Try.prog 110 #[.pointer (some ⟨g, 0, none⟩)] w fun e w' => e = .returned (.tuple #[]) ∧ FlP w B g ob (o ++ [(2, 0, p)] ++ [(3, c, ⟨#[]⟩)]) w' := by
  have c0 := hb.cell 0
  have f0 := hb.frozen 0
  have c1 := hb.cell 1
  have f1 := hb.frozen 1
  have c2 := hb.cell 2
  have f2 := hb.frozen 2
  have hl := hb.lt
  obtain ⟨A, cp, hv⟩ := ho.form
  subst hv
  have Hne0 := Lib.hid (Ne.symm (own_blk_ne (t := 165) ho hb (by decide)))
  have Hb0 := Lib.hid hb
  have Ho0 := Lib.hid ho
  have Hob := Lib.hid hob
  clear hb ho hob
  go_enter Try.func110, Try.ntmps110
  go_wp2_with fail
  go_region_law (first | (refine step_app_drew _ rfl (.tmp 11) (.tmp 17) rfl B _ o (by simp [Act.eval, Act.put]) Ho0.out 2 0 p 1 (by simp [Act.eval, Act.put]) (by omega) hB0 ?_; intro v1 w1 g1 g2 g3 g4; obtain ⟨A1, c1', rfl⟩ := g1.form_ (n := o.length + 1) (by simp); have hb1 := Blk.grown Hb0.out g3 Hne0.out; have d0 := hb1.cell 0; have d1 := hb1.cell 1; have d2 := hb1.cell 2; have e0 := hb1.frozen 0; have e1 := hb1.frozen 1; have e2 := hb1.frozen 2; have l1 := hb1.lt))
  all_goals
    have Hb1 := Lib.hid (fl_app Hb0.out Ho0.out Hob.out g1 g3 g4)
    have hB1 : B ≤ w1.heap.size := by have := g2.size; omega
    clear hb1 g1 g2 g3 g4 c0 c1 c2 f0 f1 f2 hl
    go_wp2_with fail
    have hsz1 : (w1.setCell ⟨g, 0, none⟩ (.slice A1 (o.length + 1) c1')).heap.size = w1.heap.size := by simp [World.setCell]
    rw [← hsz1] at hB1
    clear hsz1 d0 d1 d2 e0 e1 e2 l1
    generalize w1.setCell ⟨g, 0, none⟩ (.slice A1 (o.length + 1) c1') = W1 at *
    have hb := Hb1.out.1
    have ho := Hb1.out.2.1
    have c0 := hb.cell 0
    have f0 := hb.frozen 0
    have c1 := hb.cell 1
    have f1 := hb.frozen 1
    have c2 := hb.cell 2
    have f2 := hb.frozen 2
    have hl := hb.lt
    have hlen1 : (o ++ [((2, 0, p) : Pt)]).length ≤ 100000000 := by rw [List.length_append, List.length_singleton]; omega
    have Hne1 := Lib.hid (Ne.symm (own_blk_ne (t := 165) ho hb (by decide)))
    have Hbb1 := Lib.hid hb
    have Ho1 := Lib.hid ho
    clear hb ho
    go_region_law (first | (refine step_app_drew _ rfl (.tmp 30) (.tmp 36) rfl B _ (o ++ [((2, 0, p) : Pt)]) (by simp [Act.eval, Act.put]) Ho1.out 3 c ⟨#[]⟩ 1 (by simp [Act.eval, Act.put]) hlen1 hB1 ?_; intro v1 w1 g1 g2 g3 g4; obtain ⟨A2, c2', rfl⟩ := g1.form_ (n := o.length + 2) (by simp); have hb1 := Blk.grown Hbb1.out g3 Hne1.out; have d0 := hb1.cell 0; have d1 := hb1.cell 1; have d2 := hb1.cell 2; have e0 := hb1.frozen 0; have e1 := hb1.frozen 1; have e2 := hb1.frozen 2; have l1 := hb1.lt))
    all_goals
      have Hb2 := Lib.hid (fl_app Hbb1.out Ho1.out rfl g1 g3 g4)
      clear hb1 g1 g2 g3 g4
      go_wp2_with fail
      go_end0
      refine ⟨rfl, _, (fl_clear Hb2.out.1 Hb2.out.2.1).1, Hb1.out.2.2.trans (Hb2.out.2.2.trans (fl_clear Hb2.out.1 Hb2.out.2.1).2)⟩
end Go.Proofs.Ytfncpcmaplhojaa
namespace Go.Proofs.Ytfncpcmaplhojaa
open Go.ChangeShapes Go.WideShapes Go.RowKit
set_option linter.unusedVariables false
set_option linter.unusedSimpArgs false
set_option maxRecDepth 100000
set_option maxHeartbeats 4000000

theorem spoil_any (p : Pt) (g n cap : Nat) (cur : Array Value) (w : World) (hb : Blk w g 45 cur) (hs : cur.size = cap * 3) (hn : n ≤ cap) (hc : cap ≤ maxLen) :
    Calls Try.prog 29 #[.slice (some ⟨g, 0, none⟩) n cap, pval p] w fun e w' => e = .returned (.tuple #[]) ∧ Only w w' (fun k => k = g) := by
  obtain ⟨kd, m, t⟩ := p
  have hcap : (cap : Int) ≤ 9223372036854775807 := by unfold maxLen at hc; omega
  have hnc : (n : Int) ≤ (cap : Int) := by omega
  have h0 : (0 : Int) ≤ (cap : Int) := by omega
  have Hs := Lib.hid hs
  have Hb := Lib.hid hb
  have hlt := hb.lt
  clear hs hb
  unfold pval
  go_enter Try.func29, Try.ntmps29
  go_wp2_with fail
  have Hx := Lib.hid (Blk.new w 45 #[.int .i64 kd, .int .i64 m, .string t])
  have Hg := Lib.hid (Hb.out.alloc (.cells #[.int .i64 kd, .int .i64 m, .string t] 45))
  have Ho := Lib.hid (Only.alloc (S := fun k => k = g) w (.cells #[.int .i64 kd, .int .i64 m, .string t] 45))
  generalize w.alloc (.cells #[.int .i64 kd, .int .i64 m, .string t] 45) = W at *
  obtain ⟨x, hx⟩ : ∃ x, w.heap.size = x := ⟨_, rfl⟩
  rw [hx] at Hx hlt ⊢
  go_loopw [4, 11] (fun uv iv wr => ∃ (k : Nat) (cs : Array Value), k ≤ cap ∧ iv = .int .i64 k ∧ Hid (cs.size = cap * 3) ∧ Hid (Blk wr g 45 cs) ∧ Hid (Blk wr x 45 #[.int .i64 kd, .int .i64 m, .string t]) ∧ Hid (Only w wr (fun k => k = g))) (fun _ iv _ => cap - (intOf iv).toNat)
  case atStart => exact ⟨0, cur, by omega, rfl, Hs, Hg, Hx, Ho⟩
  case round =>
    obtain ⟨k, cs, hk, rfl, hcs, hgb, hxb, ho⟩ := hrel
    by_cases hlt2 : k < cap
    · have hkc : (k : Int) < (cap : Int) := by omega
      have hk0 : (0 : Int) ≤ (k : Int) := by omega
      have hsz := hcs.out
      have a0 := hgb.out.cell (k * 3)
      have a1 := hgb.out.cell (k * 3 + 1)
      have a2 := hgb.out.cell (k * 3 + 2)
      obtain ⟨v0, e0⟩ : ∃ v, cs[k * 3]? = some v := ⟨cs[k * 3]'(by omega), Array.getElem?_eq_getElem (by omega)⟩
      obtain ⟨v1, e1⟩ : ∃ v, cs[k * 3 + 1]? = some v := ⟨cs[k * 3 + 1]'(by omega), Array.getElem?_eq_getElem (by omega)⟩
      obtain ⟨v2, e2⟩ : ∃ v, cs[k * 3 + 2]? = some v := ⟨cs[k * 3 + 2]'(by omega), Array.getElem?_eq_getElem (by omega)⟩
      rw [e0] at a0
      rw [e1] at a1
      rw [e2] at a2
      have f0 := hgb.out.frozen (k * 3)
      have f1 := hgb.out.frozen (k * 3 + 1)
      have f2 := hgb.out.frozen (k * 3 + 2)
      have x0 := hxb.out.cell 0
      have x1 := hxb.out.cell 1
      have x2 := hxb.out.cell 2
      have hxl := hxb.out.lt
      have hgl := hgb.out.lt
      clear e0 e1 e2 hsz
      have hxg : x ≠ g := by omega
      go_wp2_with fail
      go_roundw
      case rel =>
        refine ⟨k + 1, ((cs.setIfInBounds (k * 3) (.int .i64 kd)).setIfInBounds (k * 3 + 1) (.int .i64 m)).setIfInBounds (k * 3 + 2) (.string t), by omega, by go_num, Lib.hid (by simpa using hcs.out), Lib.hid (((hgb.out.set_ _ _).set_ _ _).set_ _ _), Lib.hid (((hxb.out.far hxg _).far hxg _).far hxg _), Lib.hid (((ho.out.trans (Only.setSelf _ _ _ _)).trans (Only.setSelf _ _ _ _)).trans (Only.setSelf _ _ _ _))⟩
      case measure => simp [intOf]; omega
    · obtain rfl : k = cap := by omega
      go_wp2_with fail
      go_end0
      exact ⟨rfl, ho.out⟩
end Go.Proofs.Ytfncpcmaplhojaa
namespace Go.Proofs.Ytfncpcmaplhojaa
set_option linter.unusedVariables false
set_option linter.unusedSimpArgs false

/-- what is left of a delta of whose first part 'used' have been taken -/
def rem (l : List Pt) (used : Nat) : List U := (units l).drop used
def adv : List Pt → Nat → Nat → List Pt × Nat
  | p :: r, used, n => if used + n = lenP p then (r, 0) else (p :: r, used + n)
  | [], used, _ => ([], used)
/-- how a walker stands -/
def WOk (l : List Pt) (used : Nat) : Prop := Fine l ∧ (l = [] → used = 0) ∧ ∀ p r, l = p :: r → used < lenP p
theorem rem_nil : rem [] 0 = [] := rfl
theorem rem_zero (l : List Pt) : rem l 0 = units l := rfl
theorem rem_cons {p : Pt} {r : List Pt} {used : Nat} (h : Shape p) (hu : used ≤ lenP p) : rem (p :: r) used = (up p).drop used ++ units r := by
  unfold rem
  rw [units_cons, List.drop_append_of_le_length (by rw [up_len p h]; exact hu)]
theorem rem_adv {p : Pt} {r : List Pt} {used n : Nat} (h : Shape p) (hu : used + n ≤ lenP p) : rem (adv (p :: r) used n).1 (adv (p :: r) used n).2 = (rem (p :: r) used).drop n := by
  simp only [adv]
  split
  · rename_i e
    rw [rem_cons h (by omega), rem_zero, List.drop_append, List.drop_eq_nil_of_le (by rw [List.length_drop, up_len p h]; omega)]
    rw [List.length_drop, up_len p h, show n - (lenP p - used) = 0 by omega]
    simp
  · unfold rem
    rw [List.drop_drop]
theorem wok_adv {p : Pt} {r : List Pt} {used n : Nat} (h : WOk (p :: r) used) (hu : used + n ≤ lenP p) : WOk (adv (p :: r) used n).1 (adv (p :: r) used n).2 := by
  obtain ⟨hf, _, h2⟩ := h
  simp only [adv]
  split
  · refine ⟨fun q hq => hf q (by simp [hq]), fun _ => rfl, fun q s e => ?_⟩
    have e' : r = q :: s := e
    have hs := hf q (by simp [e'])
    show 0 < lenP q
    unfold lenP
    rcases hs with ⟨h1, h2, h3⟩ | ⟨h1, h2, h3⟩
    · rw [if_neg (by omega)]; omega
    · rw [if_pos h1]; omega
  · rename_i hne
    refine ⟨hf, by simp, fun q s e => ?_⟩
    have e' : p = q := by injection e
    subst e'
    have := h2 p r rfl
    show used + n < lenP p
    omega
theorem rem_ne {l : List Pt} {used : Nat} (h : WOk l used) (hl : l ≠ []) : rem l used ≠ [] := by
  rcases l with _ | ⟨p, r⟩
  · exact absurd rfl hl
  · intro e
    have h1 := h.2.2 p r rfl
    have h2 := congrArg List.length e
    rw [rem_cons (h.1 p (by simp)) (by omega), List.length_append, List.length_drop, up_len p (h.1 p (by simp))] at h2
    simp at h2
    omega
theorem rem_keep {r : List Pt} {N : Int} {t : ByteArray} {used n : Nat} (h : Shape (1, N, t)) (hu : used + n ≤ N.toNat) :
    rem ((1, N, t) :: r) used = List.replicate n none ++ rem (adv ((1, N, t) :: r) used n).1 (adv ((1, N, t) :: r) used n).2 := by
  have hl : lenP ((1, N, t) : Pt) = N.toNat := by simp [lenP]
  rw [rem_adv h (by rw [hl]; exact hu), rem_cons h (by rw [hl]; omega)]
  simp only [up, if_true, List.drop_replicate]
  rw [show N.toNat - used = n + (N.toNat - used - n) by omega, ← List.replicate_append_replicate, List.append_assoc, List.drop_left' (by simp)]
theorem rem_cut {r : List Pt} {N : Int} {t : ByteArray} {used n : Nat} (h : Shape (3, N, t)) (hu : used + n ≤ N.toNat) :
    rem ((3, N, t) :: r) used = List.replicate n (some none) ++ rem (adv ((3, N, t) :: r) used n).1 (adv ((3, N, t) :: r) used n).2 := by
  have hl : lenP ((3, N, t) : Pt) = N.toNat := by simp [lenP]
  rw [rem_adv h (by rw [hl]; exact hu), rem_cons h (by rw [hl]; omega)]
  have e : up ((3, N, t) : Pt) = List.replicate N.toNat (some none) := rfl
  rw [e, List.drop_replicate]
  rw [show N.toNat - used = n + (N.toNat - used - n) by omega, ← List.replicate_append_replicate, List.append_assoc, List.drop_left' (by simp)]
theorem pu_extract (t : ByteArray) (a b : Nat) : pu (t.extract a b) = ((pu t).take b).drop a := by
  unfold pu
  have e : (t.extract a b).data.toList = (t.data.toList.take b).drop a := by
    rw [ByteArray.data_extract, Array.toList_extract, List.extract_eq_take_drop, List.drop_take]
  rw [e, List.map_drop, List.map_take]
theorem rem_put {r : List Pt} {N : Int} {t : ByteArray} {used n : Nat} (h : Shape (2, N, t)) (hu : used + n ≤ t.size) :
    rem ((2, N, t) :: r) used = pu (t.extract used (used + n)) ++ rem (adv ((2, N, t) :: r) used n).1 (adv ((2, N, t) :: r) used n).2 := by
  have hl : lenP ((2, N, t) : Pt) = t.size := by simp [lenP]
  have hp : (pu t).length = t.size := by simp [pu]
  rw [rem_adv h (by rw [hl]; exact hu), rem_cons h (by rw [hl]; omega)]
  have e : up ((2, N, t) : Pt) = pu t := rfl
  rw [e, pu_extract]
  have e2 : (pu t).drop used = ((pu t).take (used + n)).drop used ++ (pu t).drop (used + n) := by
    conv => lhs; rw [← List.take_append_drop (used + n) (pu t)]
    rw [List.drop_append_of_le_length (by rw [List.length_take]; omega)]
  rw [e2, List.append_assoc, List.drop_left' (by rw [List.length_drop, List.length_take]; omega)]

theorem cmp_cuts (n : Nat) (xs ys : List U) : cmp (List.replicate n (some none) ++ xs) ys = List.replicate n (some none) ++ cmp xs ys := by
  induction n with
  | zero => rfl
  | succ n ih => rw [List.replicate_succ]; simp only [List.cons_append, cmp]; rw [ih]
theorem cmp_puts (s : List UInt8) (xs ys : List U) (h : ∀ r, xs ≠ some none :: r) : cmp xs (s.map (fun b => some (some b)) ++ ys) = s.map (fun b => some (some b)) ++ cmp xs ys := by
  induction s with
  | nil => rfl
  | cons b s ih => simp only [List.map_cons, List.cons_append]; rw [cmp_put _ _ _ h, ih]
theorem cmp_kk (n : Nat) (xs ys : List U) : cmp (List.replicate n none ++ xs) (List.replicate n none ++ ys) = List.replicate n none ++ cmp xs ys := by
  induction n with
  | zero => rfl
  | succ n ih => rw [List.replicate_succ]; simp only [List.cons_append, cmp, lead, rst, List.nil_append]; rw [ih]
theorem cmp_kc (n : Nat) (xs ys : List U) : cmp (List.replicate n none ++ xs) (List.replicate n (some none) ++ ys) = List.replicate n (some none) ++ cmp xs ys := by
  induction n with
  | zero => rfl
  | succ n ih => rw [List.replicate_succ, List.replicate_succ]; simp only [List.cons_append, cmp, lead, rst, List.nil_append]; rw [ih]
theorem cmp_pk (s : List UInt8) (xs ys : List U) : cmp (s.map (fun b => some (some b)) ++ xs) (List.replicate s.length none ++ ys) = s.map (fun b => some (some b)) ++ cmp xs ys := by
  induction s with
  | nil => rfl
  | cons b s ih => rw [List.length_cons, List.replicate_succ]; simp only [List.map_cons, List.cons_append, cmp, lead, rst, List.nil_append]; rw [ih]
theorem cmp_pc (s : List UInt8) (xs ys : List U) : cmp (s.map (fun b => some (some b)) ++ xs) (List.replicate s.length (some none) ++ ys) = cmp xs ys := by
  induction s with
  | nil => rfl
  | cons b s ih => rw [List.length_cons, List.replicate_succ]; simp only [List.map_cons, List.cons_append, cmp, lead, rst, List.nil_append]; rw [ih]
theorem mt_xputs (s : List UInt8) (xs ys : List U) : mt (s.map (fun b => some (some b)) ++ xs) ys = (s.map (fun b => some (some b)) ++ (mt xs ys).1, List.replicate s.length none ++ (mt xs ys).2) := by
  induction s with
  | nil => rfl
  | cons b s ih => simp only [List.map_cons, List.cons_append, mt, List.length_cons, List.replicate_succ]; rw [ih]
theorem mt_yputs (s : List UInt8) (xs ys : List U) (h : ∀ c r, xs ≠ some (some c) :: r) : mt xs (s.map (fun b => some (some b)) ++ ys) = (List.replicate s.length none ++ (mt xs ys).1, s.map (fun b => some (some b)) ++ (mt xs ys).2) := by
  induction s with
  | nil => rfl
  | cons b s ih => simp only [List.map_cons, List.cons_append, List.length_cons, List.replicate_succ]; rw [mt_put _ _ _ h, ih]
theorem mt_kk (n : Nat) (xs ys : List U) : mt (List.replicate n none ++ xs) (List.replicate n none ++ ys) = (List.replicate n none ++ (mt xs ys).1, List.replicate n none ++ (mt xs ys).2) := by
  induction n with
  | zero => rfl
  | succ n ih => rw [List.replicate_succ]; simp only [List.cons_append, mt, lead, rst, List.nil_append, List.map_nil]; rw [ih]
theorem mt_kc (n : Nat) (xs ys : List U) : mt (List.replicate n none ++ xs) (List.replicate n (some none) ++ ys) = ((mt xs ys).1, List.replicate n (some none) ++ (mt xs ys).2) := by
  induction n with
  | zero => rfl
  | succ n ih => rw [List.replicate_succ, List.replicate_succ]; simp only [List.cons_append, mt, lead, rst, List.nil_append, List.map_nil]; rw [ih]
theorem mt_ck (n : Nat) (xs ys : List U) : mt (List.replicate n (some none) ++ xs) (List.replicate n none ++ ys) = (List.replicate n (some none) ++ (mt xs ys).1, (mt xs ys).2) := by
  induction n with
  | zero => rfl
  | succ n ih => rw [List.replicate_succ, List.replicate_succ]; simp only [List.cons_append, mt, lead, rst, List.nil_append, List.map_nil]; rw [ih]
theorem mt_cc (n : Nat) (xs ys : List U) : mt (List.replicate n (some none) ++ xs) (List.replicate n (some none) ++ ys) = mt xs ys := by
  induction n with
  | zero => rfl
  | succ n ih => rw [List.replicate_succ]; simp only [List.cons_append, mt, lead, rst, List.nil_append, List.map_nil]; rw [ih]
theorem len_sizes : ∀ us : List U, us.length ≤ nI us + nO us
  | [] => Nat.le_refl _
  | none :: us => by have := len_sizes us; simp only [List.length_cons, nI, nO]; omega
  | some none :: us => by have := len_sizes us; simp only [List.length_cons, nI, nO]; omega
  | some (some b) :: us => by have := len_sizes us; simp only [List.length_cons, nI, nO]; omega
end Go.Proofs.Ytfncpcmaplhojaa
