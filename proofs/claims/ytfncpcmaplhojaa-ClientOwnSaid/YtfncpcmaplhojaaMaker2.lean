/- Contracts of part.Maker's methods: Cut, Put, flush, Keep, Done. -/
import Derived.Test.YtfncpcmaplhojaaMaker
namespace Go.Proofs.Ytfncpcmaplhojaa
open Go.ChangeShapes Go.WideShapes Go.RowKit
set_option linter.unusedVariables false
set_option linter.unusedSimpArgs false
set_option maxRecDepth 100000
set_option maxHeartbeats 4000000

theorem mcut_raw (g : Nat) (v : Value) (p : ByteArray) (c n : Int) (w : World) (h : Blk w g 165 #[v, .string p, .int .i64 c]) (h0 : 0 ≤ c) (h1 : c ≤ 100000000) (h2 : 0 ≤ n) (h3 : n ≤ 100000000) :
    Calls Try.prog 92 #[.pointer (some ⟨g, 0, none⟩), .int .i64 n] w fun e w' => e = .returned (.tuple #[]) ∧ w' = w.setCell ⟨g, 2, none⟩ (.int .i64 (c + n)) := by
  have c2 := h.cell 2
  have f2 := h.frozen 2
  have hl := h.lt
  clear h
  go_enter Try.func92, Try.ntmps92
  go_wp2_with fail
  go_end0
  exact ⟨rfl, rfl⟩
theorem mput_raw (g : Nat) (v : Value) (p s : ByteArray) (c : Int) (w : World) (h : Blk w g 165 #[v, .string p, .int .i64 c]) (h1 : p.size ≤ 100000000) (h2 : s.size ≤ 100000000) :
    Calls Try.prog 93 #[.pointer (some ⟨g, 0, none⟩), .string s] w fun e w' => e = .returned (.tuple #[]) ∧ w' = w.setCell ⟨g, 1, none⟩ (.string (p ++ s)) := by
  have c1 := h.cell 1
  have f1 := h.frozen 1
  have hl := h.lt
  clear h
  go_enter Try.func93, Try.ntmps93
  go_wp2_with fail
  go_end0
  exact ⟨rfl, rfl⟩
theorem mcut_any {B g : Nat} {ob : Option Nat} {us : List U} {w : World} (n : Int) (h : Mk w B g ob us) (hl : us.length ≤ 100000000) (h2 : 0 ≤ n) (h3 : n ≤ 100000000) :
    Calls Try.prog 92 #[.pointer (some ⟨g, 0, none⟩), .int .i64 n] w fun e w' => e = .returned (.tuple #[]) ∧ Mk w' B g ob (us ++ cu n) ∧ Only w w' (fun k => k = g ∨ ob = some k) := by
  obtain ⟨o, p, c, ⟨v, hb, ho, hob⟩, hr⟩ := h
  obtain ⟨_, _, h4, h5, _, _⟩ := hr.bounds
  refine (mcut_raw g v p c n w hb h4 (by omega) h2 h3).mono ?_
  rintro e w' ⟨rfl, rfl⟩
  have hs : Only w (w.setCell ⟨g, 2, none⟩ (.int .i64 (c + n))) (fun k => k = g) := Only.setCell _ _ _ rfl
  refine ⟨rfl, ⟨o, p, c + n, ⟨v, hb.set_ 2 _, ?_, hob⟩, hr.cut h2⟩, hs.mono fun k _ h => .inl h⟩
  exact own_only ho hs fun k hk he => own_blk_ne (t := 165) ho hb (by decide) (by rw [hk, he])
theorem mput_any {B g : Nat} {ob : Option Nat} {us : List U} {w : World} (s : ByteArray) (h : Mk w B g ob us) (hl : us.length ≤ 100000000) (h3 : s.size ≤ 100000000) :
    Calls Try.prog 93 #[.pointer (some ⟨g, 0, none⟩), .string s] w fun e w' => e = .returned (.tuple #[]) ∧ Mk w' B g ob (us ++ pu s) ∧ Only w w' (fun k => k = g ∨ ob = some k) := by
  obtain ⟨o, p, c, ⟨v, hb, ho, hob⟩, hr⟩ := h
  obtain ⟨_, h4, _, _, _, _⟩ := hr.bounds
  refine (mput_raw g v p s c w hb (by omega) h3).mono ?_
  rintro e w' ⟨rfl, rfl⟩
  have hs : Only w (w.setCell ⟨g, 1, none⟩ (.string (p ++ s))) (fun k => k = g) := Only.setCell _ _ _ rfl
  refine ⟨rfl, ⟨o, p ++ s, c, ⟨v, hb.set_ 1 _, ?_, hob⟩, hr.put s⟩, hs.mono fun k _ h => .inl h⟩
  exact own_only ho hs fun k hk he => own_blk_ne (t := 165) ho hb (by decide) (by rw [hk, he])

/-- what flush leaves -/
def FlP (w : World) (B g : Nat) (ob : Option Nat) (o : List Pt) (w' : World) : Prop := ∃ ob', MkS w' B g ob' o emp 0 ∧ MFr w w' g ob ob'
theorem MFr.refl (w : World) (g : Nat) (ob : Option Nat) : MFr w w g ob ob := ⟨Only.refl _ _, .inl rfl⟩
theorem MFr.trans {w w' w'' : World} {g : Nat} {a b c : Option Nat} (h : MFr w w' g a b) (h' : MFr w' w'' g b c) : MFr w w'' g a c := by
  obtain ⟨h1, h2⟩ := h
  obtain ⟨h3, h4⟩ := h'
  have hsz := h1.2.2.2.1
  refine ⟨?_, ?_⟩
  · refine ⟨h3.1.trans h1.1, h3.2.1.trans h1.2.1, h3.2.2.1.trans h1.2.2.1, Nat.le_trans hsz h3.2.2.2.1, fun k hk hs => ?_⟩
    refine (h3.2.2.2.2 k (by omega) ?_).trans (h1.2.2.2.2 k hk hs)
    rintro (rfl | hb)
    · exact hs (.inl rfl)
    · rcases h2 with rfl | h2
      · exact hs (.inr hb)
      · have := h2 k hb; omega
  · rcases h4 with rfl | h4
    · exact h2
    · exact .inr fun k hk => Nat.le_trans hsz (h4 k hk)
theorem MFr.of_only {w w' : World} {g : Nat} {ob : Option Nat} (h : Only w w' (fun k => k = g)) : MFr w w' g ob ob := ⟨h.mono fun _ _ h => .inl h, .inl rfl⟩
theorem fl_app {w w1 : World} {B g : Nat} {ob : Option Nat} {v v1 P C : Value} {o o1 : List Pt} (hb : Blk w g 165 #[v, P, C]) (ho : OwnP w B v o) (hob : v.ownBlock = ob) (h1 : OwnP w1 B v1 o1) (h3 : w.grownBy w1 v.ownBlock)
    (h4 : v1.ownBlock = v.ownBlock ∨ v1.ownBlock = some (w.heap.size + 1)) :
    Blk (w1.setCell ⟨g, 0, none⟩ v1) g 165 #[v1, P, C] ∧ OwnP (w1.setCell ⟨g, 0, none⟩ v1) B v1 o1 ∧ MFr w (w1.setCell ⟨g, 0, none⟩ v1) g ob v1.ownBlock := by
  subst hob
  have hne : some g ≠ v.ownBlock := Ne.symm (own_blk_ne (t := 165) ho hb (by decide))
  have hb1 := hb.grown h3 hne
  have hs := Only.setSelf w1 g 0 v1
  refine ⟨hb1.set_ 0 v1, own_only h1 hs fun k hk he => own_blk_ne (t := 165) h1 hb1 (by decide) (by rw [hk, he]), ?_, ?_⟩
  · exact ((Only.of_grown h3).mono fun k _ h => .inr h).trans (hs.mono fun k _ h => .inl h)
  · rcases h4 with h4 | h4
    · exact .inl h4
    · exact .inr fun k hk => by rw [h4] at hk; injection hk with hk; omega
theorem fl_clear {w : World} {B g : Nat} {v P C : Value} {o : List Pt} (hb : Blk w g 165 #[v, P, C]) (ho : OwnP w B v o) :
    MkS ((w.setCell ⟨g, 1, none⟩ (.string ⟨#[]⟩)).setCell ⟨g, 2, none⟩ (.int .i64 0)) B g v.ownBlock o emp 0 ∧ MFr w ((w.setCell ⟨g, 1, none⟩ (.string ⟨#[]⟩)).setCell ⟨g, 2, none⟩ (.int .i64 0)) g v.ownBlock v.ownBlock := by
  have hs : Only w ((w.setCell ⟨g, 1, none⟩ (.string ⟨#[]⟩)).setCell ⟨g, 2, none⟩ (.int .i64 0)) (fun k => k = g) := (Only.setSelf _ _ _ _).trans (Only.setSelf _ _ _ _)
  exact ⟨⟨v, (hb.set_ 1 _).set_ 2 _, own_only ho hs fun k hk he => own_blk_ne (t := 165) ho hb (by decide) (by rw [hk, he]), rfl⟩, MFr.of_only hs⟩
theorem flush_none (g : Nat) (v : Value) (o : List Pt) (B : Nat) (ob : Option Nat) (c : Int) (w : World) (hb : Blk w g 165 #[v, .string ⟨#[]⟩, .int .i64 c]) (ho : OwnP w B v o) (hob : v.ownBlock = ob) (hc : c ≤ 0) :
    Calls Try.prog 110 #[.pointer (some ⟨g, 0, none⟩)] w fun e w' => e = .returned (.tuple #[]) ∧ FlP w B g ob o w' := by
  have c1 := hb.cell 1
  have f1 := hb.frozen 1
  have c2 := hb.cell 2
  have f2 := hb.frozen 2
  have hl := hb.lt
  have Hb := Lib.hid hb
  have Ho := Lib.hid ho
  have Hob := Lib.hid hob
  clear hb ho hob
  go_enter Try.func110, Try.ntmps110
  go_wp2_with fail
  go_end0
  have hs : Only w ((w.setCell ⟨g, 1, none⟩ (.string ⟨#[]⟩)).setCell ⟨g, 2, none⟩ (.int .i64 0)) (fun k => k = g) := (Only.setSelf _ _ _ _).trans (Only.setSelf _ _ _ _)
  refine ⟨rfl, ob, ⟨v, (Hb.out.set_ 1 _).set_ 2 _, ?_, Hob.out⟩, hs.mono fun k _ h => .inl h, .inl rfl⟩
  exact own_only Ho.out hs fun k hk he => own_blk_ne (t := 165) Ho.out Hb.out (by decide) (by rw [hk, he])
theorem flush_put (g : Nat) (v : Value) (o : List Pt) (B : Nat) (ob : Option Nat) (p : ByteArray) (c : Int) (w : World) (hb : Blk w g 165 #[v, .string p, .int .i64 c]) (ho : OwnP w B v o) (hob : v.ownBlock = ob) (hc : c ≤ 0)
    (hp : p.toList.isEmpty = false) (hlen0 : o.length ≤ 100000000) (hB0 : B ≤ w.heap.size) :
    Calls Try.prog 110 #[.pointer (some ⟨g, 0, none⟩)] w fun e w' => e = .returned (.tuple #[]) ∧ FlP w B g ob (o ++ [(2, 0, p)]) w' := by
  have c0 := hb.cell 0
  have f0 := hb.frozen 0
  have c1 := hb.cell 1
  have f1 := hb.frozen 1
  have c2 := hb.cell 2
  have f2 := hb.frozen 2
  have hl := hb.lt
  obtain ⟨A, cp, hv⟩ := ho.form
  subst hv
  have Hne0 := Lib.hid (Ne.symm (own_blk_ne (t := 165) ho hb (by decide)))
  have Hb0 := Lib.hid hb
  have Ho0 := Lib.hid ho
  have Hob := Lib.hid hob
  clear hb ho hob
  go_enter Try.func110, Try.ntmps110
  go_wp2_with fail
  go_region_law (first | (refine step_app_drew _ rfl (.tmp 11) (.tmp 17) rfl B _ o (by simp [Act.eval, Act.put]) Ho0.out 2 0 p 1 (by simp [Act.eval, Act.put]) (by omega) hB0 ?_; intro v1 w1 g1 g2 g3 g4; obtain ⟨A1, c1', rfl⟩ := g1.form_ (n := o.length + 1) (by simp); have hb1 := Blk.grown Hb0.out g3 Hne0.out; have d0 := hb1.cell 0; have d1 := hb1.cell 1; have d2 := hb1.cell 2; have e0 := hb1.frozen 0; have e1 := hb1.frozen 1; have e2 := hb1.frozen 2; have l1 := hb1.lt))
  all_goals
    have Hb1 := Lib.hid (fl_app Hb0.out Ho0.out Hob.out g1 g3 g4)
    clear hb1 g1 g2 g3 g4
    go_wp2_with fail
    go_end0
    refine ⟨rfl, _, (fl_clear Hb1.out.1 Hb1.out.2.1).1, Hb1.out.2.2.trans (fl_clear Hb1.out.1 Hb1.out.2.1).2⟩
theorem flush_cut (g : Nat) (v : Value) (o : List Pt) (B : Nat) (ob : Option Nat) (c : Int) (w : World) (hb : Blk w g 165 #[v, .string ⟨#[]⟩, .int .i64 c]) (ho : OwnP w B v o) (hob : v.ownBlock = ob) (hc : 0 < c)
    (hlen0 : o.length ≤ 100000000) (hB0 : B ≤ w.heap.size) :
    Calls Try.prog 110 #[.pointer (some ⟨g, 0, none⟩)] w fun e w' => e = .returned (.tuple #[]) ∧ FlP w B g ob (o ++ [(3, c, ⟨#[]⟩)]) w' := by
  have c0 := hb.cell 0
  have f0 := hb.frozen 0
  have c1 := hb.cell 1
  have f1 := hb.frozen 1
  have c2 := hb.cell 2
  have f2 := hb.frozen 2
  have hl := hb.lt
  obtain ⟨A, cp, hv⟩ := ho.form
  subst hv
  have Hne0 := Lib.hid (Ne.symm (own_blk_ne (t := 165) ho hb (by decide)))
  have Hb0 := Lib.hid hb
  have Ho0 := Lib.hid ho
  have Hob := Lib.hid hob
  clear hb ho hob
  go_enter Try.func110, Try.ntmps110
  go_wp2_with fail
  go_region_law (first | (refine step_app_drew _ rfl (.tmp 30) (.tmp 36) rfl B _ o (by simp [Act.eval, Act.put]) Ho0.out 3 c ⟨#[]⟩ 1 (by simp [Act.eval, Act.put]) (by omega) hB0 ?_; intro v1 w1 g1 g2 g3 g4; obtain ⟨A1, c1', rfl⟩ := g1.form_ (n := o.length + 1) (by simp); have hb1 := Blk.grown Hb0.out g3 Hne0.out; have d0 := hb1.cell 0; have d1 := hb1.cell 1; have d2 := hb1.cell 2; have e0 := hb1.frozen 0; have e1 := hb1.frozen 1; have e2 := hb1.frozen 2; have l1 := hb1.lt))
  all_goals
    have Hb1 := Lib.hid (fl_app Hb0.out Ho0.out Hob.out g1 g3 g4)
    clear hb1 g1 g2 g3 g4
    go_wp2_with fail
    go_end0
    refine ⟨rfl, _, (fl_clear Hb1.out.1 Hb1.out.2.1).1, Hb1.out.2.2.trans (fl_clear Hb1.out.1 Hb1.out.2.1).2⟩
theorem flush_both (g : Nat) (v : Value) (o : List Pt) (B : Nat) (ob : Option Nat) (p : ByteArray) (c : Int) (w : World) (hb : Blk w g 165 #[v, .string p, .int .i64 c]) (ho : OwnP w B v o) (hob : v.ownBlock = ob) (hc : 0 < c)
    (hp : p.toList.isEmpty = false) (hlen0 : o.length ≤ 99999999) (hB0 : B ≤ w.heap.size) :
    Calls Try.prog 110 #[.pointer (some ⟨g, 0, none⟩)] w fun e w' => e = .returned (.tuple #[]) ∧ FlP w B g ob (o ++ [(2, 0, p)] ++ [(3, c, ⟨#[]⟩)]) w' := by
  have c0 := hb.cell 0
  have f0 := hb.frozen 0
  have c1 := hb.cell 1
  have f1 := hb.frozen 1
  have c2 := hb.cell 2
  have f2 := hb.frozen 2
  have hl := hb.lt
  obtain ⟨A, cp, hv⟩ := ho.form
  subst hv
  have Hne0 := Lib.hid (Ne.symm (own_blk_ne (t := 165) ho hb (by decide)))
  have Hb0 := Lib.hid hb
  have Ho0 := Lib.hid ho
  have Hob := Lib.hid hob
  clear hb ho hob
  go_enter Try.func110, Try.ntmps110
  go_wp2_with fail
  go_region_law (first | (refine step_app_drew _ rfl (.tmp 11) (.tmp 17) rfl B _ o (by simp [Act.eval, Act.put]) Ho0.out 2 0 p 1 (by simp [Act.eval, Act.put]) (by omega) hB0 ?_; intro v1 w1 g1 g2 g3 g4; obtain ⟨A1, c1', rfl⟩ := g1.form_ (n := o.length + 1) (by simp); have hb1 := Blk.grown Hb0.out g3 Hne0.out; have d0 := hb1.cell 0; have d1 := hb1.cell 1; have d2 := hb1.cell 2; have e0 := hb1.frozen 0; have e1 := hb1.frozen 1; have e2 := hb1.frozen 2; have l1 := hb1.lt))
  all_goals
    have Hb1 := Lib.hid (fl_app Hb0.out Ho0.out Hob.out g1 g3 g4)
    have hB1 : B ≤ w1.heap.size := by have := g2.size; omega
    clear hb1 g1 g2 g3 g4 c0 c1 c2 f0 f1 f2 hl
    go_wp2_with fail
    have hsz1 : (w1.setCell ⟨g, 0, none⟩ (.slice A1 (o.length + 1) c1')).heap.size = w1.heap.size := by simp [World.setCell]
    rw [← hsz1] at hB1
    clear hsz1 d0 d1 d2 e0 e1 e2 l1
    generalize w1.setCell ⟨g, 0, none⟩ (.slice A1 (o.length + 1) c1') = W1 at *
    have hb := Hb1.out.1
    have ho := Hb1.out.2.1
    have c0 := hb.cell 0
    have f0 := hb.frozen 0
    have c1 := hb.cell 1
    have f1 := hb.frozen 1
    have c2 := hb.cell 2
    have f2 := hb.frozen 2
    have hl := hb.lt
    have hlen1 : (o ++ [((2, 0, p) : Pt)]).length ≤ 100000000 := by rw [List.length_append, List.length_singleton]; omega
    have Hne1 := Lib.hid (Ne.symm (own_blk_ne (t := 165) ho hb (by decide)))
    have Hbb1 := Lib.hid hb
    have Ho1 := Lib.hid ho
    clear hb ho
    go_region_law (first | (refine step_app_drew _ rfl (.tmp 30) (.tmp 36) rfl B _ (o ++ [((2, 0, p) : Pt)]) (by simp [Act.eval, Act.put]) Ho1.out 3 c ⟨#[]⟩ 1 (by simp [Act.eval, Act.put]) hlen1 hB1 ?_; intro v1 w1 g1 g2 g3 g4; obtain ⟨A2, c2', rfl⟩ := g1.form_ (n := o.length + 2) (by simp); have hb1 := Blk.grown Hbb1.out g3 Hne1.out; have d0 := hb1.cell 0; have d1 := hb1.cell 1; have d2 := hb1.cell 2; have e0 := hb1.frozen 0; have e1 := hb1.frozen 1; have e2 := hb1.frozen 2; have l1 := hb1.lt))
    all_goals
      have Hb2 := Lib.hid (fl_app Hbb1.out Ho1.out rfl g1 g3 g4)
      clear hb1 g1 g2 g3 g4
      go_wp2_with fail
      go_end0
      refine ⟨rfl, _, (fl_clear Hb2.out.1 Hb2.out.2.1).1, Hb1.out.2.2.trans (Hb2.out.2.2.trans (fl_clear Hb2.out.1 Hb2.out.2.1).2)⟩
end Go.Proofs.Ytfncpcmaplhojaa
