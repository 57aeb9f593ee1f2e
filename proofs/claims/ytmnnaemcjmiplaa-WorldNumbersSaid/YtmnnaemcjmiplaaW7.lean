/- Contracts of part.Walk and part.Walker's methods. Two deltas gone through side by side: what is told, step by step; plain lists, no program. -/
import Derived.Test.YtmnnaemcjmiplaaW3
import Derived.Test.YtmnnaemcjmiplaaW4
namespace Go.Proofs.Ytmnnaemcjmiplaa
open Go.ChangeShapes Go.WideShapes Go.RowKit
set_option linter.unusedVariables false
set_option linter.unusedSimpArgs false
set_option maxRecDepth 100000
set_option maxHeartbeats 4000000

/-- a Walker at block g: of the parts l the first has been taken by 'used' -/
def Wk (w : World) (B g : Nat) (l : List Pt) (used : Nat) : Prop :=
  B ≤ g ∧ ∃ A n c, Blk w g 206 #[.slice A n c, .int .i64 used] ∧ RdP w B A n c l ∧ WOk l used ∧ ∀ p ∈ l, fitE p = 0
section
variable {w w' : World} {B B' g used : Nat} {l : List Pt} {S : Nat → Prop}
theorem Wk.lt (h : Wk w B g l used) : g < w.heap.size := by obtain ⟨_, A, n, c, hb, _⟩ := h; exact hb.lt
theorem Wk.ok (h : Wk w B g l used) : WOk l used := by obtain ⟨_, A, n, c, _, _, h, _⟩ := h; exact h
theorem Wk.fit (h : Wk w B g l used) : ∀ p ∈ l, fitE p = 0 := by obtain ⟨_, A, n, c, _, _, _, h⟩ := h; exact h
theorem Wk.only (h : Wk w B g l used) (ho : Only w w' S) (h1 : ¬ S g) (h2 : Below B w w') : Wk w' B g l used := by
  obtain ⟨hg, A, n, c, hb, hr, hk⟩ := h
  exact ⟨hg, A, n, c, hb.only ho h1, hr.below h2, hk⟩
theorem Wk.drewN (h : Wk w B g l used) (q : Nat) : Wk (w.drewN q) B g l used := by
  obtain ⟨hg, A, n, c, hb, hr, hk⟩ := h
  exact ⟨hg, A, n, c, hb.drewN q, hr.drewN q, hk⟩
end
theorem walk_any (l : List Pt) (A : Option Addr) (n c B : Nat) (w : World) (h : RdP w B A n c l) (hB : B ≤ w.heap.size) (hk : chk l = 0) :
    Calls Try.prog 110 #[.slice A n c] w fun e w' => e = .returned (.pointer (some ⟨w.heap.size, 0, none⟩)) ∧ Wk w' B w.heap.size l 0 ∧ Below w.heap.size w w' ∧ w'.heap.size = w.heap.size + 1 := by
  have hr := h.alloc hB (.cells #[.slice A n c, .int .i64 0] 206)
  have hw : Wk (w.alloc (.cells #[.slice A n c, .int .i64 0] 206)) B w.heap.size l 0 := by
    refine ⟨hB, A, n, c, Blk.new w _ _, hr, ⟨(chk_parts hk).2.2.1, fun _ => rfl, fun p r e => ?_⟩, (chk_parts hk).2.2.2.2.2⟩
    have hs := (chk_parts hk).2.2.1 p (by rw [e]; simp)
    unfold lenP
    rcases hs with ⟨h1, h2, h3⟩ | ⟨h1, h2, h3⟩
    · rw [if_neg (by omega)]; omega
    · rw [if_pos h1]; omega
  have Hw := Lib.hid hw
  clear h hr hw
  go_enter Try.func110, Try.ntmps110
  go_wp2_with fail
  go_ret
  exact ⟨rfl, Hw.out, (Below.refl _ _).alloc (Nat.le_refl _) _, by simp⟩
/-- the first part's cells -/
theorem Wk.first {w : World} {B g used : Nat} {p : Pt} {r : List Pt} (h : Wk w B g (p :: r) used) : ∃ b o c, Blk w g 206 #[.slice (some ⟨b, o, none⟩) (r.length + 1) c, .int .i64 used] ∧ r.length + 1 ≤ c ∧ c ≤ maxLen ∧ b < B ∧ RdP w B (some ⟨b, o, none⟩) (r.length + 1) c (p :: r) ∧
    w.cell? ⟨b, o, none⟩ = some (.int .i64 p.1) ∧ w.cell? ⟨b, o + 1, none⟩ = some (.int .i64 p.2.1) ∧ w.cell? ⟨b, o + 2, none⟩ = some (.string p.2.2) := by
  obtain ⟨_, A, n, c, hb, hr, hk⟩ := h
  obtain rfl : n = r.length + 1 := hr.1
  obtain ⟨b, o, rfl, h1, h2, h3, h4⟩ := hr.at_ 0 (by omega)
  rw [Nat.zero_mul, Nat.add_zero] at h2 h3 h4
  exact ⟨b, o, c, hb, hr.2.1.1, hr.2.1.2.1, h1, hr, h2, h3, h4⟩
theorem wkind_any (l : List Pt) (used B g : Nat) (w : World) (h : Wk w B g l used) :
    Calls Try.prog 111 #[.pointer (some ⟨g, 0, none⟩)] w fun e w' => e = .returned (.int .i64 (hk l)) ∧ w = w' := by
  rcases l with _ | ⟨p, r⟩
  · obtain ⟨_, A, n, c, hb, hr, _⟩ := h
    obtain rfl : n = 0 := hr.1
    have c0 := hb.cell 0
    clear hb hr
    go_enter Try.func111, Try.ntmps111
    go_wp2_with fail
    go_ret
    exact ⟨rfl, rfl⟩
  · obtain ⟨b, o, c, hb, h1, h2, h3, hrd, d0, d1, d2⟩ := h.first
    obtain ⟨kd, m, t⟩ := p
    have c0 := hb.cell 0
    simp only at d0 d1 d2
    clear hb hrd
    have hm : r.length + 1 ≤ 9223372036854775807 := by unfold maxLen at h2; omega
    clear h
    go_enter Try.func111, Try.ntmps111
    go_wp2_with fail
    go_ret
    exact ⟨rfl, rfl⟩
theorem wsize_raw (p : Pt) (b o c m' g : Nat) (u : Value) (w : World) (hb : Blk w g 206 #[.slice (some ⟨b, o, none⟩) (m' + 1) c, u]) (h1 : m' + 1 ≤ c) (h2 : c ≤ maxLen) (hfp : fitE p = 0)
    (d0 : w.cell? ⟨b, o, none⟩ = some (.int .i64 p.1)) (d1 : w.cell? ⟨b, o + 1, none⟩ = some (.int .i64 p.2.1)) (d2 : w.cell? ⟨b, o + 2, none⟩ = some (.string p.2.2)) :
    Calls Try.prog 128 #[.pointer (some ⟨g, 0, none⟩)] w fun e w' => e = .returned (.int .i64 (lenP p)) ∧ w = w' := by
  have hf := fit_bounds p hfp
  obtain ⟨kd, m, t⟩ := p
  have c0 := hb.cell 0
  simp only at d0 d1 d2 hf
  clear hb hfp
  have hm : m' + 1 ≤ 9223372036854775807 := by unfold maxLen at h2; omega
  rcases hf with ⟨rfl | rfl, hf1, hf2, rfl⟩ | ⟨rfl, rfl, hf1, hf2⟩
  · have e1 : ((lenP (1, m, emp) : Nat) : Int) = m := by show ((m.toNat : Nat) : Int) = m; omega
    rw [e1]
    clear e1
    go_enter Try.func128, Try.ntmps128
    go_wp2_with fail
    go_ret
    exact ⟨rfl, rfl⟩
  · have e1 : ((lenP (3, m, emp) : Nat) : Int) = m := by show ((m.toNat : Nat) : Int) = m; omega
    rw [e1]
    clear e1
    go_enter Try.func128, Try.ntmps128
    go_wp2_with fail
    go_ret
    exact ⟨rfl, rfl⟩
  · have e1 : ((lenP (2, 0, t) : Nat) : Int) = t.size := rfl
    rw [e1]
    clear e1
    go_enter Try.func128, Try.ntmps128
    go_wp2_with fail
    go_ret
    exact ⟨rfl, rfl⟩
theorem wsize_any (p : Pt) (r : List Pt) (used B g : Nat) (w : World) (h : Wk w B g (p :: r) used) :
    Calls Try.prog 128 #[.pointer (some ⟨g, 0, none⟩)] w fun e w' => e = .returned (.int .i64 (lenP p)) ∧ w = w' := by
  obtain ⟨b, o, c, hb, h1, h2, h3, hrd, d0, d1, d2⟩ := h.first
  exact wsize_raw p b o c _ g _ w hb h1 h2 (h.fit p (by simp)) d0 d1 d2
def WS (w0 w : World) : Prop := ∃ q, w = w0.drewN q
theorem WS.refl (w : World) : WS w w := ⟨0, rfl⟩
theorem WS.drew {a b : World} (h : WS a b) : WS a b.drew := by obtain ⟨q, rfl⟩ := h; exact ⟨q + 1, rfl⟩
theorem WS.wk {a b : World} {B g used : Nat} {l : List Pt} (h : Wk a B g l used) (hs : WS a b) : Wk b B g l used := by obtain ⟨q, rfl⟩ := hs; exact h.drewN q
theorem lenP_fit {p : Pt} (h : fitE p = 0) : lenP p ≤ 500 := by
  rcases fit_bounds p h with ⟨h1, h2, h3, h4⟩ | ⟨h1, h2, h3, h4⟩
  · unfold lenP; rw [if_neg (by omega)]; omega
  · unfold lenP; rw [if_pos h1]; omega
theorem wleft_any (p : Pt) (r : List Pt) (used B g : Nat) (w : World) (h : Wk w B g (p :: r) used) :
    Calls Try.prog 113 #[.pointer (some ⟨g, 0, none⟩)] w fun e w' => e = .returned (.int .i64 ((lenP p - used : Nat) : Int)) ∧ WS w w' := by
  have hl := lenP_fit (h.fit p (by simp))
  have hu := h.ok.2.2 p r rfl
  obtain ⟨N, hN⟩ : ∃ N, lenP p = N := ⟨_, rfl⟩
  have hcall : ∀ b, WS w b → Calls Try.prog 128 #[.pointer (some ⟨g, 0, none⟩)] b fun e w' => e = .returned (.int .i64 (N : Int)) ∧ b = w' := by
    intro b hb
    have := wsize_any p r used B g b (hb.wk h)
    rwa [hN] at this
  rw [hN] at hl hu ⊢
  have hcell : w.cell? ⟨g, 1, none⟩ = some (.int .i64 used) := by obtain ⟨_, A, n, c, hb, _⟩ := h; exact hb.cell 1
  have Hcall := Lib.hid hcall
  have hwr : IntKind.i64.wrap ((N : Int) - (used : Int)) = (N : Int) - (used : Int) := IntWalk.i64_in _ (by omega)
  have hsub : ((N - used : Nat) : Int) = (N : Int) - (used : Int) := by omega
  rw [hsub]
  clear hcall h hsub hN
  go_enter Try.func113, Try.ntmps113
  go_wp2_with fail
  go_region_held3 (fun w' => WS w w' ∧ w'.cell? ⟨g, 1, none⟩ = some (.int .i64 used)) (first | assumption | exact ⟨WS.drew (WS.refl _), by assumption⟩ | exact ⟨WS.drew (by assumption), by assumption⟩)
    ((first | (go_at_call 128; refine (Hcall.out _ (And.left (by assumption))).mono ?_; rintro e w9 ⟨rfl, rfl⟩)))
  all_goals
    go_wp2_with fail
    go_ret
    exact ⟨rfl, WS.drew (WS.refl _)⟩
/-- the rest of a slice of parts -/
theorem RdP.tail {w : World} {B b o c : Nat} {p : Pt} {r : List Pt} (h : RdP w B (some ⟨b, o, none⟩) (r.length + 1) c (p :: r)) : RdP w B (some ⟨b, o + 3, none⟩) r.length (c - 1) r := by
  obtain ⟨h1, ⟨h2, h3, h4, h5⟩, h6⟩ := h
  refine ⟨rfl, ⟨by omega, by omega, pc_len r, fun hn => ?_⟩, fun q hq => h6 q (by simp [hq])⟩
  obtain ⟨b', o', e, hb, hc⟩ := h5 (by omega)
  injection e with e
  injection e with e1 e2
  subst e1 e2
  refine ⟨b, o + 3, rfl, hb, fun j u hj => ?_⟩
  have := hc (j + 3) u (by
    unfold pc at hj ⊢
    rw [List.flatMap_cons, List.getElem?_append_right (by simp [pcells])]
    simpa [pcells] using hj)
  rwa [show o + 3 + j = o + (j + 3) by omega]
theorem RdP.none_ {w : World} {B c : Nat} {A : Option Addr} (hc : c ≤ maxLen) : RdP w B A 0 c [] := ⟨rfl, ⟨by omega, hc, rfl, fun h => absurd h (by omega)⟩, by simp⟩
theorem take_last {w W1 : World} {g : Nat} {s u : Value} (K1 : Blk W1 g 206 #[s, u]) (O1 : Only w W1 (fun k => k = g)) (x : Value) :
    Blk ((W1.setCell ⟨g, 0, none⟩ x).setCell ⟨g, 1, none⟩ (.int .i64 0)).drew g 206 #[x, .int .i64 0] ∧ Only w ((W1.setCell ⟨g, 0, none⟩ x).setCell ⟨g, 1, none⟩ (.int .i64 0)).drew (fun k => k = g) :=
  ⟨((K1.set_ 0 _).set_ 1 _).drew, ((O1.trans (Only.setSelf _ _ _ _)).trans (Only.setSelf _ _ _ _)).trans (Only.drew _)⟩
/-- what is taken -/
def tk (p : Pt) (used n : Nat) : ByteArray := if p.1 = 2 then p.2.2.extract used (used + n) else ⟨#[]⟩
theorem wtake_any (p : Pt) (r : List Pt) (used n B g : Nat) (w : World) (h : Wk w B g (p :: r) used) (hn : used + n ≤ lenP p) :
    Calls Try.prog 112 #[.pointer (some ⟨g, 0, none⟩), .int .i64 n] w fun e w' => e = .returned (.string (tk p used n)) ∧ Wk w' B g (adv (p :: r) used n).1 (adv (p :: r) used n).2 ∧ Only w w' (fun k => k = g) := by
  have hl := lenP_fit (h.fit p (by simp))
  obtain ⟨b, o, c, hb, h1, h2, h3, hrd, d0, d1, d2⟩ := h.first
  have hfit := h.fit p (by simp)
  have hg := h.1
  have hbg : g ≠ b := by omega
  obtain ⟨N, hN⟩ : ∃ N, lenP p = N := ⟨_, rfl⟩
  have hcall : ∀ w', Blk w' g 206 #[.slice (some ⟨b, o, none⟩) (r.length + 1) c, .int .i64 ((used : Int) + n)] ∧ w'.cell? ⟨b, o, none⟩ = w.cell? ⟨b, o, none⟩ ∧ w'.cell? ⟨b, o + 1, none⟩ = w.cell? ⟨b, o + 1, none⟩ ∧ w'.cell? ⟨b, o + 2, none⟩ = w.cell? ⟨b, o + 2, none⟩ →
      Calls Try.prog 128 #[.pointer (some ⟨g, 0, none⟩)] w' fun e w'' => e = .returned (.int .i64 (N : Int)) ∧ w' = w'' := by
    rintro w' ⟨hb', e0, e1, e2⟩
    have := wsize_raw p b o c _ g _ w' hb' h1 h2 hfit (e0.trans d0) (e1.trans d1) (e2.trans d2)
    rwa [hN] at this
  rw [hN] at hl hn
  have hbd := fit_bounds p hfit
  obtain ⟨kd, m, t⟩ := p
  simp only at d0 d1 d2 hbd
  have c0 := hb.cell 0
  have c1 := hb.cell 1
  have f0 := hb.frozen 0
  have f1 := hb.frozen 1
  have l0 := hb.lt
  have Hb := Lib.hid hb
  have Hcall := Lib.hid hcall
  have HN := Lib.hid hN
  have Hh := Lib.hid h
  have hm : r.length + 1 ≤ 9223372036854775807 := by unfold maxLen at h2; omega
  clear hb hcall hN h h3 hfit
  rcases hbd with ⟨hkd, hf1, hf2, rfl⟩ | ⟨rfl, rfl, hf1, hf2⟩
  · have hk2 : (kd == 2) = false := by simp; omega
    have htk : Hid (tk (kd, m, emp) used n = ⟨#[]⟩) := Lib.hid (by unfold tk; rw [if_neg (by simp only; omega)])
    rw [htk.out]
    clear htk hkd
    have hbel := fun k (hk : k ≠ g) => Below.heap_setCell w ⟨g, 1, none⟩ (.int .i64 ((used : Int) + n)) k hk
    have k1 : Blk (w.setCell ⟨g, 1, none⟩ (.int .i64 ((used : Int) + n))) g 206 #[.slice (some ⟨b, o, none⟩) (r.length + 1) c, .int .i64 ((used : Int) + n)] := Hb.out.set_ 1 (.int .i64 ((used : Int) + n))
    have hB := hbel b (Ne.symm hbg)
    have o1 : Only w (w.setCell ⟨g, 1, none⟩ (.int .i64 ((used : Int) + n))) (fun k => k = g) := Only.setCell _ _ _ rfl
    go_enter Try.func112, Try.ntmps112
    go_wp2_with fail
    generalize w.setCell ⟨g, 1, none⟩ (.int .i64 ((used : Int) + n)) = W1 at *
    have hc1 := k1.cell 1
    have hc0 := k1.cell 0
    have g1 := k1.frozen 1
    have g0 := k1.frozen 0
    have m1 := k1.lt
    have hcallW : ∀ w', WS W1 w' → Calls Try.prog 128 #[.pointer (some ⟨g, 0, none⟩)] w' fun e w'' => e = .returned (.int .i64 (N : Int)) ∧ w' = w'' := by
      rintro w' ⟨q, rfl⟩
      exact Hcall.out _ ⟨k1.drewN q, World.cell?_of_block hB, World.cell?_of_block hB, World.cell?_of_block hB⟩
    have HcallW := Lib.hid hcallW
    have K1 := Lib.hid k1
    have O1 := Lib.hid o1
    clear hbel hB k1 o1 hcallW c0 c1 f0 f1 l0
    go_region_held3 (fun w' => WS W1 w' ∧ w'.cell? ⟨g, 1, none⟩ = some (.int .i64 ((used : Int) + n))) (first | assumption | exact ⟨WS.drew (WS.refl _), by assumption⟩ | exact ⟨WS.drew (by assumption), by assumption⟩)
      ((first | (go_at_call 128; refine (HcallW.out _ (And.left (by assumption))).mono ?_; rintro e w9 ⟨rfl, rfl⟩)))
    all_goals
      by_cases hun : used + n = N
      · have hadv : Hid (adv ((kd, m, emp) :: r) used n = (r, 0)) := Lib.hid (by simp only [adv]; rw [if_pos (by rw [HN.out]; exact hun)])
        have hz : ((used : Int) + n == (N : Int)) = true := by simp; omega
        have h1' : (1 : Int) ≤ (r.length : Int) + 1 := by omega
        by_cases hc : c = 1
        · subst hc
          obtain rfl : r = [] := List.eq_nil_of_length_eq_zero (by omega)
          go_wp2_with fail
          go_ret
          refine ⟨rfl, ?_, (take_last K1.out O1.out _).2⟩
          rw [hadv.out]
          have hok := wok_adv Hh.out.ok (n := n) (by rw [HN.out]; omega)
          rw [hadv.out] at hok
          exact ⟨hg, _, _, _, (take_last K1.out O1.out _).1, (RdP.none_ (by decide)).below ((take_last K1.out O1.out _).2.below (by have := Hh.out.lt; omega) fun k hk => by omega), hok, fun q hq => Hh.out.fit q (by simp_all)⟩
        · go_wp2_with fail
          go_ret
          refine ⟨rfl, ?_, (take_last K1.out O1.out _).2⟩
          rw [hadv.out]
          have hok := wok_adv Hh.out.ok (n := n) (by rw [HN.out]; omega)
          rw [hadv.out] at hok
          exact ⟨hg, _, _, _, (take_last K1.out O1.out _).1, hrd.tail.below ((take_last K1.out O1.out _).2.below (by have := Hh.out.lt; omega) fun k hk => by omega), hok, fun q hq => Hh.out.fit q (by simp_all)⟩
      · have hadv : Hid (adv ((kd, m, emp) :: r) used n = ((kd, m, emp) :: r, used + n)) := Lib.hid (by simp only [adv]; rw [if_neg (by rw [HN.out]; exact hun)])
        have hz : ((used : Int) + n == (N : Int)) = false := by simp; omega
        go_wp2_with fail
        go_ret
        refine ⟨rfl, ?_, O1.out.trans (Only.drew _)⟩
        rw [hadv.out]
        have hok := wok_adv Hh.out.ok (n := n) (by rw [HN.out]; omega)
        rw [hadv.out] at hok
        exact ⟨hg, _, _, _, K1.out.drew, hrd.below ((O1.out.trans (Only.drew _)).below (by have := Hh.out.lt; omega) fun k hk => by omega), hok, Hh.out.fit⟩
  · have htk : Hid (tk (2, 0, t) used n = t.extract used (used + n)) := Lib.hid (by unfold tk; rw [if_pos rfl])
    rw [htk.out]
    clear htk
    have hNt : Hid (N = t.size) := Lib.hid (by rw [← HN.out]; rfl)
    have hunt : used + n ≤ t.size := by have := hNt.out; omega
    have hunt2 : (used : Int) + n ≤ (t.size : Int) := by omega
    have hu0 : (0 : Int) ≤ (used : Int) := by omega
    have hu1 : (used : Int) ≤ (used : Int) + n := by omega
    have hw1 : IntKind.i64.wrap ((used : Int) + n) = (used : Int) + n := IntWalk.i64_in _ (by omega)
    have ht1 : ((used : Int) + n).toNat = used + n := by omega
    go_enter Try.func112, Try.ntmps112
    go_wp2_with fail
    go_quiet (fail)
    have k1 : Blk ((w.drewN nq).setCell ⟨g, 1, none⟩ (.int .i64 ((used : Int) + n))) g 206 #[.slice (some ⟨b, o, none⟩) (r.length + 1) c, .int .i64 ((used : Int) + n)] := (Hb.out.drewN nq).set_ 1 (.int .i64 ((used : Int) + n))
    have hB : ((w.drewN nq).setCell ⟨g, 1, none⟩ (.int .i64 ((used : Int) + n))).heap[b]? = w.heap[b]? := Below.heap_setCell (w.drewN nq) ⟨g, 1, none⟩ (.int .i64 ((used : Int) + n)) b (Ne.symm hbg)
    have o1 : Only w ((w.drewN nq).setCell ⟨g, 1, none⟩ (.int .i64 ((used : Int) + n))) (fun k => k = g) := (Only.drewN w nq).trans (Only.setCell _ _ _ rfl)
    go_wp2_with fail
    generalize (w.drewN nq).setCell ⟨g, 1, none⟩ (.int .i64 ((used : Int) + n)) = W1 at *
    have hc1 := k1.cell 1
    have hc0 := k1.cell 0
    have g1 := k1.frozen 1
    have g0 := k1.frozen 0
    have m1 := k1.lt
    have hcallW : ∀ w', WS W1 w' → Calls Try.prog 128 #[.pointer (some ⟨g, 0, none⟩)] w' fun e w'' => e = .returned (.int .i64 (N : Int)) ∧ w' = w'' := by
      rintro w' ⟨q, rfl⟩
      exact Hcall.out _ ⟨k1.drewN q, World.cell?_of_block hB, World.cell?_of_block hB, World.cell?_of_block hB⟩
    have HcallW := Lib.hid hcallW
    have K1 := Lib.hid k1
    have O1 := Lib.hid o1
    clear hB k1 o1 hcallW c0 c1 f0 f1 l0
    go_region_held3 (fun w' => WS W1 w' ∧ w'.cell? ⟨g, 1, none⟩ = some (.int .i64 ((used : Int) + n))) (first | assumption | exact ⟨WS.drew (WS.refl _), by assumption⟩ | exact ⟨WS.drew (by assumption), by assumption⟩)
      ((first | (go_at_call 128; refine (HcallW.out _ (And.left (by assumption))).mono ?_; rintro e w9 ⟨rfl, rfl⟩)))
    all_goals
      by_cases hun : used + n = N
      · have hadv : Hid (adv ((2, 0, t) :: r) used n = (r, 0)) := Lib.hid (by simp only [adv]; rw [if_pos (by rw [HN.out]; exact hun)])
        have hz : ((used : Int) + n == (N : Int)) = true := by simp; omega
        have h1' : (1 : Int) ≤ (r.length : Int) + 1 := by omega
        by_cases hc : c = 1
        · subst hc
          obtain rfl : r = [] := List.eq_nil_of_length_eq_zero (by omega)
          go_wp2_with fail
          go_ret
          refine ⟨rfl, ?_, (take_last K1.out O1.out _).2⟩
          rw [hadv.out]
          have hok := wok_adv Hh.out.ok (n := n) (by rw [HN.out]; omega)
          rw [hadv.out] at hok
          exact ⟨hg, _, _, _, (take_last K1.out O1.out _).1, (RdP.none_ (by decide)).below ((take_last K1.out O1.out _).2.below (by have := Hh.out.lt; omega) fun k hk => by omega), hok, fun q hq => Hh.out.fit q (by simp_all)⟩
        · go_wp2_with fail
          go_ret
          refine ⟨rfl, ?_, (take_last K1.out O1.out _).2⟩
          rw [hadv.out]
          have hok := wok_adv Hh.out.ok (n := n) (by rw [HN.out]; omega)
          rw [hadv.out] at hok
          exact ⟨hg, _, _, _, (take_last K1.out O1.out _).1, hrd.tail.below ((take_last K1.out O1.out _).2.below (by have := Hh.out.lt; omega) fun k hk => by omega), hok, fun q hq => Hh.out.fit q (by simp_all)⟩
      · have hadv : Hid (adv ((2, 0, t) :: r) used n = ((2, 0, t) :: r, used + n)) := Lib.hid (by simp only [adv]; rw [if_neg (by rw [HN.out]; exact hun)])
        have hz : ((used : Int) + n == (N : Int)) = false := by simp; omega
        go_wp2_with fail
        go_ret
        refine ⟨rfl, ?_, O1.out.trans (Only.drew _)⟩
        rw [hadv.out]
        have hok := wok_adv Hh.out.ok (n := n) (by rw [HN.out]; omega)
        rw [hadv.out] at hok
        exact ⟨hg, _, _, _, K1.out.drew, hrd.below ((O1.out.trans (Only.drew _)).below (by have := Hh.out.lt; omega) fun k hk => by omega), hok, Hh.out.fit⟩
end Go.Proofs.Ytmnnaemcjmiplaa
namespace Go.Proofs.Ytmnnaemcjmiplaa
set_option linter.unusedVariables false
set_option linter.unusedSimpArgs false

def compE (a b : List Pt) : Int := if chk a ≠ 0 then chk a else if chk b ≠ 0 then chk b else if nO (units a) ≠ nI (units b) then 4 else 0
def compL (a b : List Pt) : List Pt := if compE a b = 0 then grp (cz (cmp (units a) (units b))) else []
/-- told, and still to tell -/
def CI (told xs ys X : List U) : Prop := told ++ cmp xs ys = X ∧ nO xs = nI ys
theorem cu_nat (n : Nat) : cu (n : Int) = List.replicate n (some none) := by simp [cu]
theorem ku_nat (n : Nat) : ku (n : Int) = List.replicate n none := by simp [ku]
theorem pu_len (s : ByteArray) : (pu s).length = s.size := by simp [pu]
section
variable {told ys xs X : List U} {r rx ry : List Pt} {N M : Int} {t s : ByteArray} {u v n : Nat}
theorem cstep_cut (h : CI told (rem ((3, N, t) :: r) u) ys X) (hs : Shape (3, N, t)) (hu : u + n ≤ N.toNat) : CI (told ++ cu n) (rem (adv ((3, N, t) :: r) u n).1 (adv ((3, N, t) :: r) u n).2) ys X := by
  obtain ⟨h1, h2⟩ := h
  rw [rem_cut hs hu] at h1 h2
  rw [cmp_cuts] at h1
  rw [nO_append, nO_cuts] at h2
  exact ⟨by rw [cu_nat, List.append_assoc]; exact h1, by omega⟩
theorem cstep_put (h : CI told xs (rem ((2, M, t) :: r) u) X) (hx : ∀ r, xs ≠ some none :: r) (hs : Shape (2, M, t)) (hu : u + n ≤ t.size) : CI (told ++ pu (t.extract u (u + n))) xs (rem (adv ((2, M, t) :: r) u n).1 (adv ((2, M, t) :: r) u n).2) X := by
  obtain ⟨h1, h2⟩ := h
  rw [rem_put hs hu] at h1 h2
  rw [nI_append, nI_pu] at h2
  unfold pu at h1
  rw [cmp_puts _ _ _ hx] at h1
  exact ⟨by rw [List.append_assoc]; exact h1, by omega⟩
theorem cstep_kk (h : CI told (rem ((1, N, t) :: rx) u) (rem ((1, M, s) :: ry) v) X) (hs : Shape (1, N, t)) (hs' : Shape (1, M, s)) (hu : u + n ≤ N.toNat) (hv : v + n ≤ M.toNat) :
    CI (told ++ ku n) (rem (adv ((1, N, t) :: rx) u n).1 (adv ((1, N, t) :: rx) u n).2) (rem (adv ((1, M, s) :: ry) v n).1 (adv ((1, M, s) :: ry) v n).2) X := by
  obtain ⟨h1, h2⟩ := h
  rw [rem_keep hs hu, rem_keep hs' hv] at h1 h2
  rw [cmp_kk] at h1
  rw [nO_append, nI_append, nO_keeps, nI_keeps] at h2
  exact ⟨by rw [ku_nat, List.append_assoc]; exact h1, by omega⟩
theorem cstep_kc (h : CI told (rem ((1, N, t) :: rx) u) (rem ((3, M, s) :: ry) v) X) (hs : Shape (1, N, t)) (hs' : Shape (3, M, s)) (hu : u + n ≤ N.toNat) (hv : v + n ≤ M.toNat) :
    CI (told ++ cu n) (rem (adv ((1, N, t) :: rx) u n).1 (adv ((1, N, t) :: rx) u n).2) (rem (adv ((3, M, s) :: ry) v n).1 (adv ((3, M, s) :: ry) v n).2) X := by
  obtain ⟨h1, h2⟩ := h
  rw [rem_keep hs hu, rem_cut hs' hv] at h1 h2
  rw [cmp_kc] at h1
  rw [nO_append, nI_append, nO_keeps, nI_cuts] at h2
  exact ⟨by rw [cu_nat, List.append_assoc]; exact h1, by omega⟩
theorem ext_len (hu : u + n ≤ t.size) : (t.extract u (u + n)).size = n := by
  have : (t.extract u (u + n)).data.toList.length = n := by
    rw [ByteArray.data_extract, Array.toList_extract, List.extract_eq_take_drop, List.length_take, List.length_drop]
    have : t.data.toList.length = t.size := rfl
    omega
  exact this
theorem cstep_pk (h : CI told (rem ((2, N, t) :: rx) u) (rem ((1, M, s) :: ry) v) X) (hs : Shape (2, N, t)) (hs' : Shape (1, M, s)) (hu : u + n ≤ t.size) (hv : v + n ≤ M.toNat) :
    CI (told ++ pu (t.extract u (u + n))) (rem (adv ((2, N, t) :: rx) u n).1 (adv ((2, N, t) :: rx) u n).2) (rem (adv ((1, M, s) :: ry) v n).1 (adv ((1, M, s) :: ry) v n).2) X := by
  obtain ⟨h1, h2⟩ := h
  rw [rem_put hs hu, rem_keep hs' hv] at h1 h2
  rw [nO_append, nI_append, nO_pu, nI_keeps, ext_len hu] at h2
  have e : (t.extract u (u + n)).data.toList.length = n := ext_len hu
  have e2 : List.replicate n (none : U) = List.replicate (t.extract u (u + n)).data.toList.length none := by rw [e]
  unfold pu at h1
  rw [e2, cmp_pk] at h1
  exact ⟨by rw [List.append_assoc]; exact h1, by omega⟩
theorem cstep_pc (h : CI told (rem ((2, N, t) :: rx) u) (rem ((3, M, s) :: ry) v) X) (hs : Shape (2, N, t)) (hs' : Shape (3, M, s)) (hu : u + n ≤ t.size) (hv : v + n ≤ M.toNat) :
    CI told (rem (adv ((2, N, t) :: rx) u n).1 (adv ((2, N, t) :: rx) u n).2) (rem (adv ((3, M, s) :: ry) v n).1 (adv ((3, M, s) :: ry) v n).2) X := by
  obtain ⟨h1, h2⟩ := h
  rw [rem_put hs hu, rem_cut hs' hv] at h1 h2
  rw [nO_append, nI_append, nO_pu, nI_cuts, ext_len hu] at h2
  have e : (t.extract u (u + n)).data.toList.length = n := ext_len hu
  have e2 : List.replicate n (some none : U) = List.replicate (t.extract u (u + n)).data.toList.length (some none) := by rw [e]
  unfold pu at h1
  rw [e2, cmp_pc] at h1
  exact ⟨h1, by omega⟩
theorem rem_nocut_keep (hs : Shape (1, N, t)) (hu : u < N.toNat) : ∀ r', rem ((1, N, t) :: r) u ≠ some none :: r' := by
  intro r' e
  rw [rem_keep (n := 1) hs (by omega)] at e
  simp at e
theorem rem_noput_keep (hs : Shape (1, N, t)) (hu : u < N.toNat) : ∀ c r', rem ((1, N, t) :: r) u ≠ some (some c) :: r' := by
  intro c r' e
  rw [rem_keep (n := 1) hs (by omega)] at e
  simp at e
theorem rem_noput_cut (hs : Shape (3, N, t)) (hu : u < N.toNat) : ∀ c r', rem ((3, N, t) :: r) u ≠ some (some c) :: r' := by
  intro c r' e
  rw [rem_cut (n := 1) hs (by omega)] at e
  simp at e
theorem rem_nocut_put (hs : Shape (2, N, t)) (hu : u < t.size) : ∀ r', rem ((2, N, t) :: r) u ≠ some none :: r' := by
  intro r' e
  rw [rem_put (n := 1) hs (by omega)] at e
  have hl : (pu (t.extract u (u + 1))).length = 1 := by rw [pu_len, ext_len (by omega)]
  obtain ⟨x, hx⟩ := List.length_eq_one_iff.1 hl
  have hm : x ∈ pu (t.extract u (u + 1)) := by rw [hx]; simp
  rw [hx] at e
  unfold pu at hm
  obtain ⟨b, _, rfl⟩ := List.mem_map.1 hm
  simp at e
theorem nI_rem_keep (hs : Shape (1, N, t)) (hu : u < N.toNat) : 1 ≤ nI (rem ((1, N, t) :: r) u) ∧ 1 ≤ nO (rem ((1, N, t) :: r) u) := by
  rw [rem_keep (n := 1) hs (by omega), nI_append, nO_append, nI_keeps, nO_keeps]; omega
theorem nI_rem_cut (hs : Shape (3, N, t)) (hu : u < N.toNat) : 1 ≤ nI (rem ((3, N, t) :: r) u) := by
  rw [rem_cut (n := 1) hs (by omega), nI_append, nI_cuts]; omega
theorem nO_rem_put (hs : Shape (2, N, t)) (hu : u < t.size) : 1 ≤ nO (rem ((2, N, t) :: r) u) := by
  rw [rem_put (n := 1) hs (by omega), nO_append, nO_pu, ext_len (by omega)]; omega
end
theorem CI.len {told xs ys X : List U} (h : CI told xs ys X) : told.length ≤ X.length := by
  rw [← h.1, List.length_append]; omega
theorem CI.fin {told X : List U} (h : CI told [] [] X) : told = X := by
  have := h.1
  simpa [cmp, lead] using this
theorem comp_chk {a b : List Pt} (h : compE a b = 0) : chk a = 0 ∧ chk b = 0 ∧ nO (units a) = nI (units b) ∧ compL a b = grp (cz (cmp (units a) (units b))) ∧ chk (compL a b) = 0 := by
  have e : compL a b = grp (cz (cmp (units a) (units b))) := by unfold compL; rw [if_pos h]
  unfold compE at h
  split at h
  · omega
  · split at h
    · omega
    · split at h
      · omega
      · rename_i h1 h2 h3
        have ha : chk a = 0 := by omega
        have hb : chk b = 0 := by omega
        have hn : nO (units a) = nI (units b) := by omega
        refine ⟨ha, hb, hn, e, ?_⟩
        rw [e]
        exact good_cz (by rw [nI_cmp _ _ hn]; exact (chk_parts ha).2.2.2.1) (by rw [nO_cmp _ _ hn]; exact (chk_parts hb).2.2.2.2.1)
theorem comp_units {a b : List Pt} (h : compE a b = 0) : units (compL a b) = cz (cmp (units a) (units b)) := by rw [(comp_chk h).2.2.2.1, units_grp]
theorem comp_err {a b : List Pt} (h : compE a b ≠ 0) : compL a b = [] := by unfold compL; rw [if_neg h]
theorem comp_zero {a b : List Pt} (ha : chk a = 0) (hb : chk b = 0) (hn : nO (units a) = nI (units b)) : compE a b = 0 := by
  unfold compE; rw [if_neg (by omega), if_neg (by omega), if_neg (by omega)]
theorem comp_sizes {a b : List Pt} (h : compE a b = 0) : nI (units (compL a b)) = nI (units a) ∧ nO (units (compL a b)) = nO (units b) := by
  rw [comp_units h, nI_cz, nO_cz, nI_cmp _ _ (comp_chk h).2.2.1, nO_cmp _ _ (comp_chk h).2.2.1]; exact ⟨rfl, rfl⟩
theorem comp_eq {a b a' b' : List Pt} (h : compE a b = 0) (h' : compE a' b' = 0) (he : cz (cmp (units a) (units b)) = cz (cmp (units a') (units b'))) : compL a b = compL a' b' := by
  rw [(comp_chk h).2.2.2.1, (comp_chk h').2.2.2.1, he]
end Go.Proofs.Ytmnnaemcjmiplaa
