/- Contracts of part.Walk and part.Walker's methods. Contracts of part.Maker's methods: Cut, Put, flush, Keep, Done. Contracts of part.Maker's methods: Keep, Done. -/
import Derived.Test.YtfncpcmaplhojaaMClientOwns3
import Derived.Test.YtfncpcmaplhojaaMClientOwns4
namespace Go.Proofs.Ytfncpcmaplhojaa
open Go.ChangeShapes Go.WideShapes Go.RowKit
set_option linter.unusedVariables false
set_option linter.unusedSimpArgs false
set_option maxRecDepth 100000
set_option maxHeartbeats 4000000

/-- a Walker at block g: of the parts l the first has been taken by 'used' -/
def Wk (w : World) (B g : Nat) (l : List Pt) (used : Nat) : Prop :=
  B ≤ g ∧ ∃ A n c, Blk w g 190 #[.slice A n c, .int .i64 used] ∧ RdP w B A n c l ∧ WOk l used ∧ ∀ p ∈ l, fitE p = 0
section
variable {w w' : World} {B B' g used : Nat} {l : List Pt} {S : Nat → Prop}
theorem Wk.lt (h : Wk w B g l used) : g < w.heap.size := by obtain ⟨_, A, n, c, hb, _⟩ := h; exact hb.lt
theorem Wk.ok (h : Wk w B g l used) : WOk l used := by obtain ⟨_, A, n, c, _, _, h, _⟩ := h; exact h
theorem Wk.fit (h : Wk w B g l used) : ∀ p ∈ l, fitE p = 0 := by obtain ⟨_, A, n, c, _, _, _, h⟩ := h; exact h
theorem Wk.only (h : Wk w B g l used) (ho : Only w w' S) (h1 : ¬ S g) (h2 : Below B w w') : Wk w' B g l used := by
  obtain ⟨hg, A, n, c, hb, hr, hk⟩ := h
  exact ⟨hg, A, n, c, hb.only ho h1, hr.below h2, hk⟩
theorem Wk.alloc (h : Wk w B g l used) (hB : B ≤ w.heap.size) (o : Obj) : Wk (w.alloc o) B g l used := by
  obtain ⟨hg, A, n, c, hb, hr, hk⟩ := h
  exact ⟨hg, A, n, c, hb.alloc o, hr.alloc hB o, hk⟩
theorem Wk.drewN (h : Wk w B g l used) (q : Nat) : Wk (w.drewN q) B g l used := by
  obtain ⟨hg, A, n, c, hb, hr, hk⟩ := h
  exact ⟨hg, A, n, c, hb.drewN q, hr.drewN q, hk⟩
end
theorem walk_any (l : List Pt) (A : Option Addr) (n c B : Nat) (w : World) (h : RdP w B A n c l) (hB : B ≤ w.heap.size) (hk : chk l = 0) :
    Calls Try.prog 88 #[.slice A n c] w fun e w' => e = .returned (.pointer (some ⟨w.heap.size, 0, none⟩)) ∧ Wk w' B w.heap.size l 0 ∧ Below w.heap.size w w' ∧ w'.heap.size = w.heap.size + 1 := by
  have hr := h.alloc hB (.cells #[.slice A n c, .int .i64 0] 190)
  have hw : Wk (w.alloc (.cells #[.slice A n c, .int .i64 0] 190)) B w.heap.size l 0 := by
    refine ⟨hB, A, n, c, Blk.new w _ _, hr, ⟨(chk_parts hk).2.2.1, fun _ => rfl, fun p r e => ?_⟩, (chk_parts hk).2.2.2.2.2⟩
    have hs := (chk_parts hk).2.2.1 p (by rw [e]; simp)
    unfold lenP
    rcases hs with ⟨h1, h2, h3⟩ | ⟨h1, h2, h3⟩
    · rw [if_neg (by omega)]; omega
    · rw [if_pos h1]; omega
  have Hw := Lib.hid hw
  clear h hr hw
  go_enter Try.func88, Try.ntmps88
  go_wp2_with fail
  go_ret
  exact ⟨rfl, Hw.out, (Below.refl _ _).alloc (Nat.le_refl _) _, by simp⟩
/-- the first part's cells -/
theorem Wk.first {w : World} {B g used : Nat} {p : Pt} {r : List Pt} (h : Wk w B g (p :: r) used) : ∃ b o c, Blk w g 190 #[.slice (some ⟨b, o, none⟩) (r.length + 1) c, .int .i64 used] ∧ r.length + 1 ≤ c ∧ c ≤ maxLen ∧ b < B ∧ RdP w B (some ⟨b, o, none⟩) (r.length + 1) c (p :: r) ∧
    w.cell? ⟨b, o, none⟩ = some (.int .i64 p.1) ∧ w.cell? ⟨b, o + 1, none⟩ = some (.int .i64 p.2.1) ∧ w.cell? ⟨b, o + 2, none⟩ = some (.string p.2.2) := by
  obtain ⟨_, A, n, c, hb, hr, hk⟩ := h
  obtain rfl : n = r.length + 1 := hr.1
  obtain ⟨b, o, rfl, h1, h2, h3, h4⟩ := hr.at_ 0 (by omega)
  rw [Nat.zero_mul, Nat.add_zero] at h2 h3 h4
  exact ⟨b, o, c, hb, hr.2.1.1, hr.2.1.2.1, h1, hr, h2, h3, h4⟩
theorem wkind_any (l : List Pt) (used B g : Nat) (w : World) (h : Wk w B g l used) :
    Calls Try.prog 89 #[.pointer (some ⟨g, 0, none⟩)] w fun e w' => e = .returned (.int .i64 (hk l)) ∧ w = w' := by
  rcases l with _ | ⟨p, r⟩
  · obtain ⟨_, A, n, c, hb, hr, _⟩ := h
    obtain rfl : n = 0 := hr.1
    have c0 := hb.cell 0
    clear hb hr
    go_enter Try.func89, Try.ntmps89
    go_wp2_with fail
    go_ret
    exact ⟨rfl, rfl⟩
  · obtain ⟨b, o, c, hb, h1, h2, h3, hrd, d0, d1, d2⟩ := h.first
    obtain ⟨kd, m, t⟩ := p
    have c0 := hb.cell 0
    simp only at d0 d1 d2
    clear hb hrd
    have hm : r.length + 1 ≤ 9223372036854775807 := by unfold maxLen at h2; omega
    clear h
    go_enter Try.func89, Try.ntmps89
    go_wp2_with fail
    go_ret
    exact ⟨rfl, rfl⟩
theorem wsize_raw (p : Pt) (b o c m' g : Nat) (u : Value) (w : World) (hb : Blk w g 190 #[.slice (some ⟨b, o, none⟩) (m' + 1) c, u]) (h1 : m' + 1 ≤ c) (h2 : c ≤ maxLen) (hfp : fitE p = 0)
    (d0 : w.cell? ⟨b, o, none⟩ = some (.int .i64 p.1)) (d1 : w.cell? ⟨b, o + 1, none⟩ = some (.int .i64 p.2.1)) (d2 : w.cell? ⟨b, o + 2, none⟩ = some (.string p.2.2)) :
    Calls Try.prog 109 #[.pointer (some ⟨g, 0, none⟩)] w fun e w' => e = .returned (.int .i64 (lenP p)) ∧ w = w' := by
  have hf := fit_bounds p hfp
  obtain ⟨kd, m, t⟩ := p
  have c0 := hb.cell 0
  simp only at d0 d1 d2 hf
  clear hb hfp
  have hm : m' + 1 ≤ 9223372036854775807 := by unfold maxLen at h2; omega
  rcases hf with ⟨rfl | rfl, hf1, hf2, rfl⟩ | ⟨rfl, rfl, hf1, hf2⟩
  · have e1 : ((lenP (1, m, emp) : Nat) : Int) = m := by show ((m.toNat : Nat) : Int) = m; omega
    rw [e1]
    clear e1
    go_enter Try.func109, Try.ntmps109
    go_wp2_with fail
    go_ret
    exact ⟨rfl, rfl⟩
  · have e1 : ((lenP (3, m, emp) : Nat) : Int) = m := by show ((m.toNat : Nat) : Int) = m; omega
    rw [e1]
    clear e1
    go_enter Try.func109, Try.ntmps109
    go_wp2_with fail
    go_ret
    exact ⟨rfl, rfl⟩
  · have e1 : ((lenP (2, 0, t) : Nat) : Int) = t.size := rfl
    rw [e1]
    clear e1
    go_enter Try.func109, Try.ntmps109
    go_wp2_with fail
    go_ret
    exact ⟨rfl, rfl⟩
theorem wsize_any (p : Pt) (r : List Pt) (used B g : Nat) (w : World) (h : Wk w B g (p :: r) used) :
    Calls Try.prog 109 #[.pointer (some ⟨g, 0, none⟩)] w fun e w' => e = .returned (.int .i64 (lenP p)) ∧ w = w' := by
  obtain ⟨b, o, c, hb, h1, h2, h3, hrd, d0, d1, d2⟩ := h.first
  exact wsize_raw p b o c _ g _ w hb h1 h2 (h.fit p (by simp)) d0 d1 d2
def WS (w0 w : World) : Prop := ∃ q, w = w0.drewN q
theorem WS.refl (w : World) : WS w w := ⟨0, rfl⟩
theorem WS.drew {a b : World} (h : WS a b) : WS a b.drew := by obtain ⟨q, rfl⟩ := h; exact ⟨q + 1, rfl⟩
theorem WS.wk {a b : World} {B g used : Nat} {l : List Pt} (h : Wk a B g l used) (hs : WS a b) : Wk b B g l used := by obtain ⟨q, rfl⟩ := hs; exact h.drewN q
theorem lenP_fit {p : Pt} (h : fitE p = 0) : lenP p ≤ 500 := by
  rcases fit_bounds p h with ⟨h1, h2, h3, h4⟩ | ⟨h1, h2, h3, h4⟩
  · unfold lenP; rw [if_neg (by omega)]; omega
  · unfold lenP; rw [if_pos h1]; omega
theorem wleft_any (p : Pt) (r : List Pt) (used B g : Nat) (w : World) (h : Wk w B g (p :: r) used) :
    Calls Try.prog 90 #[.pointer (some ⟨g, 0, none⟩)] w fun e w' => e = .returned (.int .i64 ((lenP p - used : Nat) : Int)) ∧ WS w w' := by
  have hl := lenP_fit (h.fit p (by simp))
  have hu := h.ok.2.2 p r rfl
  obtain ⟨N, hN⟩ : ∃ N, lenP p = N := ⟨_, rfl⟩
  have hcall : ∀ b, WS w b → Calls Try.prog 109 #[.pointer (some ⟨g, 0, none⟩)] b fun e w' => e = .returned (.int .i64 (N : Int)) ∧ b = w' := by
    intro b hb
    have := wsize_any p r used B g b (hb.wk h)
    rwa [hN] at this
  rw [hN] at hl hu ⊢
  have hcell : w.cell? ⟨g, 1, none⟩ = some (.int .i64 used) := by obtain ⟨_, A, n, c, hb, _⟩ := h; exact hb.cell 1
  have Hcall := Lib.hid hcall
  have hwr : IntKind.i64.wrap ((N : Int) - (used : Int)) = (N : Int) - (used : Int) := IntWalk.i64_in _ (by omega)
  have hsub : ((N - used : Nat) : Int) = (N : Int) - (used : Int) := by omega
  rw [hsub]
  clear hcall h hsub hN
  go_enter Try.func90, Try.ntmps90
  go_wp2_with fail
  go_region_held3 (fun w' => WS w w' ∧ w'.cell? ⟨g, 1, none⟩ = some (.int .i64 used)) (first | assumption | exact ⟨WS.drew (WS.refl _), by assumption⟩ | exact ⟨WS.drew (by assumption), by assumption⟩)
    ((first | (go_at_call 109; refine (Hcall.out _ (And.left (by assumption))).mono ?_; rintro e w9 ⟨rfl, rfl⟩)))
  all_goals
    go_wp2_with fail
    go_ret
    exact ⟨rfl, WS.drew (WS.refl _)⟩
/-- the rest of a slice of parts -/
theorem RdP.tail {w : World} {B b o c : Nat} {p : Pt} {r : List Pt} (h : RdP w B (some ⟨b, o, none⟩) (r.length + 1) c (p :: r)) : RdP w B (some ⟨b, o + 3, none⟩) r.length (c - 1) r := by
  obtain ⟨h1, ⟨h2, h3, h4, h5⟩, h6⟩ := h
  refine ⟨rfl, ⟨by omega, by omega, pc_len r, fun hn => ?_⟩, fun q hq => h6 q (by simp [hq])⟩
  obtain ⟨b', o', e, hb, hc⟩ := h5 (by omega)
  injection e with e
  injection e with e1 e2
  subst e1 e2
  refine ⟨b, o + 3, rfl, hb, fun j u hj => ?_⟩
  have := hc (j + 3) u (by
    unfold pc at hj ⊢
    rw [List.flatMap_cons, List.getElem?_append_right (by simp [pcells])]
    simpa [pcells] using hj)
  rwa [show o + 3 + j = o + (j + 3) by omega]
theorem RdP.none_ {w : World} {B c : Nat} {A : Option Addr} (hc : c ≤ maxLen) : RdP w B A 0 c [] := ⟨rfl, ⟨by omega, hc, rfl, fun h => absurd h (by omega)⟩, by simp⟩
theorem take_last {w W1 : World} {g : Nat} {s u : Value} (K1 : Blk W1 g 190 #[s, u]) (O1 : Only w W1 (fun k => k = g)) (x : Value) :
    Blk ((W1.setCell ⟨g, 0, none⟩ x).setCell ⟨g, 1, none⟩ (.int .i64 0)).drew g 190 #[x, .int .i64 0] ∧ Only w ((W1.setCell ⟨g, 0, none⟩ x).setCell ⟨g, 1, none⟩ (.int .i64 0)).drew (fun k => k = g) :=
  ⟨((K1.set_ 0 _).set_ 1 _).drew, ((O1.trans (Only.setSelf _ _ _ _)).trans (Only.setSelf _ _ _ _)).trans (Only.drew _)⟩
/-- what is taken -/
def tk (p : Pt) (used n : Nat) : ByteArray := if p.1 = 2 then p.2.2.extract used (used + n) else ⟨#[]⟩
theorem wtake_any (p : Pt) (r : List Pt) (used n B g : Nat) (w : World) (h : Wk w B g (p :: r) used) (hn : used + n ≤ lenP p) :
    Calls Try.prog 91 #[.pointer (some ⟨g, 0, none⟩), .int .i64 n] w fun e w' => e = .returned (.string (tk p used n)) ∧ Wk w' B g (adv (p :: r) used n).1 (adv (p :: r) used n).2 ∧ Only w w' (fun k => k = g) := by
  have hl := lenP_fit (h.fit p (by simp))
  obtain ⟨b, o, c, hb, h1, h2, h3, hrd, d0, d1, d2⟩ := h.first
  have hfit := h.fit p (by simp)
  have hg := h.1
  have hbg : g ≠ b := by omega
  obtain ⟨N, hN⟩ : ∃ N, lenP p = N := ⟨_, rfl⟩
  have hcall : ∀ w', Blk w' g 190 #[.slice (some ⟨b, o, none⟩) (r.length + 1) c, .int .i64 ((used : Int) + n)] ∧ w'.cell? ⟨b, o, none⟩ = w.cell? ⟨b, o, none⟩ ∧ w'.cell? ⟨b, o + 1, none⟩ = w.cell? ⟨b, o + 1, none⟩ ∧ w'.cell? ⟨b, o + 2, none⟩ = w.cell? ⟨b, o + 2, none⟩ →
      Calls Try.prog 109 #[.pointer (some ⟨g, 0, none⟩)] w' fun e w'' => e = .returned (.int .i64 (N : Int)) ∧ w' = w'' := by
    rintro w' ⟨hb', e0, e1, e2⟩
    have := wsize_raw p b o c _ g _ w' hb' h1 h2 hfit (e0.trans d0) (e1.trans d1) (e2.trans d2)
    rwa [hN] at this
  rw [hN] at hl hn
  have hbd := fit_bounds p hfit
  obtain ⟨kd, m, t⟩ := p
  simp only at d0 d1 d2 hbd
  have c0 := hb.cell 0
  have c1 := hb.cell 1
  have f0 := hb.frozen 0
  have f1 := hb.frozen 1
  have l0 := hb.lt
  have Hb := Lib.hid hb
  have Hcall := Lib.hid hcall
  have HN := Lib.hid hN
  have Hh := Lib.hid h
  have hm : r.length + 1 ≤ 9223372036854775807 := by unfold maxLen at h2; omega
  clear hb hcall hN h h3 hfit
  rcases hbd with ⟨hkd, hf1, hf2, rfl⟩ | ⟨rfl, rfl, hf1, hf2⟩
  · have hk2 : (kd == 2) = false := by simp; omega
    have htk : Hid (tk (kd, m, emp) used n = ⟨#[]⟩) := Lib.hid (by unfold tk; rw [if_neg (by simp only; omega)])
    rw [htk.out]
    clear htk hkd
    have hbel := fun k (hk : k ≠ g) => Below.heap_setCell w ⟨g, 1, none⟩ (.int .i64 ((used : Int) + n)) k hk
    have k1 : Blk (w.setCell ⟨g, 1, none⟩ (.int .i64 ((used : Int) + n))) g 190 #[.slice (some ⟨b, o, none⟩) (r.length + 1) c, .int .i64 ((used : Int) + n)] := Hb.out.set_ 1 (.int .i64 ((used : Int) + n))
    have hB := hbel b (Ne.symm hbg)
    have o1 : Only w (w.setCell ⟨g, 1, none⟩ (.int .i64 ((used : Int) + n))) (fun k => k = g) := Only.setCell _ _ _ rfl
    go_enter Try.func91, Try.ntmps91
    go_wp2_with fail
    generalize w.setCell ⟨g, 1, none⟩ (.int .i64 ((used : Int) + n)) = W1 at *
    have hc1 := k1.cell 1
    have hc0 := k1.cell 0
    have g1 := k1.frozen 1
    have g0 := k1.frozen 0
    have m1 := k1.lt
    have hcallW : ∀ w', WS W1 w' → Calls Try.prog 109 #[.pointer (some ⟨g, 0, none⟩)] w' fun e w'' => e = .returned (.int .i64 (N : Int)) ∧ w' = w'' := by
      rintro w' ⟨q, rfl⟩
      exact Hcall.out _ ⟨k1.drewN q, World.cell?_of_block hB, World.cell?_of_block hB, World.cell?_of_block hB⟩
    have HcallW := Lib.hid hcallW
    have K1 := Lib.hid k1
    have O1 := Lib.hid o1
    clear hbel hB k1 o1 hcallW c0 c1 f0 f1 l0
    go_region_held3 (fun w' => WS W1 w' ∧ w'.cell? ⟨g, 1, none⟩ = some (.int .i64 ((used : Int) + n))) (first | assumption | exact ⟨WS.drew (WS.refl _), by assumption⟩ | exact ⟨WS.drew (by assumption), by assumption⟩)
      ((first | (go_at_call 109; refine (HcallW.out _ (And.left (by assumption))).mono ?_; rintro e w9 ⟨rfl, rfl⟩)))
    all_goals
      by_cases hun : used + n = N
      · have hadv : Hid (adv ((kd, m, emp) :: r) used n = (r, 0)) := Lib.hid (by simp only [adv]; rw [if_pos (by rw [HN.out]; exact hun)])
        have hz : ((used : Int) + n == (N : Int)) = true := by simp; omega
        have h1' : (1 : Int) ≤ (r.length : Int) + 1 := by omega
        by_cases hc : c = 1
        · subst hc
          obtain rfl : r = [] := List.eq_nil_of_length_eq_zero (by omega)
          go_wp2_with fail
          go_ret
          refine ⟨rfl, ?_, (take_last K1.out O1.out _).2⟩
          rw [hadv.out]
          have hok := wok_adv Hh.out.ok (n := n) (by rw [HN.out]; omega)
          rw [hadv.out] at hok
          exact ⟨hg, _, _, _, (take_last K1.out O1.out _).1, (RdP.none_ (by decide)).below ((take_last K1.out O1.out _).2.below (by have := Hh.out.lt; omega) fun k hk => by omega), hok, fun q hq => Hh.out.fit q (by simp_all)⟩
        · go_wp2_with fail
          go_ret
          refine ⟨rfl, ?_, (take_last K1.out O1.out _).2⟩
          rw [hadv.out]
          have hok := wok_adv Hh.out.ok (n := n) (by rw [HN.out]; omega)
          rw [hadv.out] at hok
          exact ⟨hg, _, _, _, (take_last K1.out O1.out _).1, hrd.tail.below ((take_last K1.out O1.out _).2.below (by have := Hh.out.lt; omega) fun k hk => by omega), hok, fun q hq => Hh.out.fit q (by simp_all)⟩
      · have hadv : Hid (adv ((kd, m, emp) :: r) used n = ((kd, m, emp) :: r, used + n)) := Lib.hid (by simp only [adv]; rw [if_neg (by rw [HN.out]; exact hun)])
        have hz : ((used : Int) + n == (N : Int)) = false := by simp; omega
        go_wp2_with fail
        go_ret
        refine ⟨rfl, ?_, O1.out.trans (Only.drew _)⟩
        rw [hadv.out]
        have hok := wok_adv Hh.out.ok (n := n) (by rw [HN.out]; omega)
        rw [hadv.out] at hok
        exact ⟨hg, _, _, _, K1.out.drew, hrd.below ((O1.out.trans (Only.drew _)).below (by have := Hh.out.lt; omega) fun k hk => by omega), hok, Hh.out.fit⟩
  · have htk : Hid (tk (2, 0, t) used n = t.extract used (used + n)) := Lib.hid (by unfold tk; rw [if_pos rfl])
    rw [htk.out]
    clear htk
    have hNt : Hid (N = t.size) := Lib.hid (by rw [← HN.out]; rfl)
    have hunt : used + n ≤ t.size := by have := hNt.out; omega
    have hunt2 : (used : Int) + n ≤ (t.size : Int) := by omega
    have hu0 : (0 : Int) ≤ (used : Int) := by omega
    have hu1 : (used : Int) ≤ (used : Int) + n := by omega
    have hw1 : IntKind.i64.wrap ((used : Int) + n) = (used : Int) + n := IntWalk.i64_in _ (by omega)
    have ht1 : ((used : Int) + n).toNat = used + n := by omega
    go_enter Try.func91, Try.ntmps91
    go_wp2_with fail
    go_quiet (fail)
    have k1 : Blk ((w.drewN nq).setCell ⟨g, 1, none⟩ (.int .i64 ((used : Int) + n))) g 190 #[.slice (some ⟨b, o, none⟩) (r.length + 1) c, .int .i64 ((used : Int) + n)] := (Hb.out.drewN nq).set_ 1 (.int .i64 ((used : Int) + n))
    have hB : ((w.drewN nq).setCell ⟨g, 1, none⟩ (.int .i64 ((used : Int) + n))).heap[b]? = w.heap[b]? := Below.heap_setCell (w.drewN nq) ⟨g, 1, none⟩ (.int .i64 ((used : Int) + n)) b (Ne.symm hbg)
    have o1 : Only w ((w.drewN nq).setCell ⟨g, 1, none⟩ (.int .i64 ((used : Int) + n))) (fun k => k = g) := (Only.drewN w nq).trans (Only.setCell _ _ _ rfl)
    go_wp2_with fail
    generalize (w.drewN nq).setCell ⟨g, 1, none⟩ (.int .i64 ((used : Int) + n)) = W1 at *
    have hc1 := k1.cell 1
    have hc0 := k1.cell 0
    have g1 := k1.frozen 1
    have g0 := k1.frozen 0
    have m1 := k1.lt
    have hcallW : ∀ w', WS W1 w' → Calls Try.prog 109 #[.pointer (some ⟨g, 0, none⟩)] w' fun e w'' => e = .returned (.int .i64 (N : Int)) ∧ w' = w'' := by
      rintro w' ⟨q, rfl⟩
      exact Hcall.out _ ⟨k1.drewN q, World.cell?_of_block hB, World.cell?_of_block hB, World.cell?_of_block hB⟩
    have HcallW := Lib.hid hcallW
    have K1 := Lib.hid k1
    have O1 := Lib.hid o1
    clear hB k1 o1 hcallW c0 c1 f0 f1 l0
    go_region_held3 (fun w' => WS W1 w' ∧ w'.cell? ⟨g, 1, none⟩ = some (.int .i64 ((used : Int) + n))) (first | assumption | exact ⟨WS.drew (WS.refl _), by assumption⟩ | exact ⟨WS.drew (by assumption), by assumption⟩)
      ((first | (go_at_call 109; refine (HcallW.out _ (And.left (by assumption))).mono ?_; rintro e w9 ⟨rfl, rfl⟩)))
    all_goals
      by_cases hun : used + n = N
      · have hadv : Hid (adv ((2, 0, t) :: r) used n = (r, 0)) := Lib.hid (by simp only [adv]; rw [if_pos (by rw [HN.out]; exact hun)])
        have hz : ((used : Int) + n == (N : Int)) = true := by simp; omega
        have h1' : (1 : Int) ≤ (r.length : Int) + 1 := by omega
        by_cases hc : c = 1
        · subst hc
          obtain rfl : r = [] := List.eq_nil_of_length_eq_zero (by omega)
          go_wp2_with fail
          go_ret
          refine ⟨rfl, ?_, (take_last K1.out O1.out _).2⟩
          rw [hadv.out]
          have hok := wok_adv Hh.out.ok (n := n) (by rw [HN.out]; omega)
          rw [hadv.out] at hok
          exact ⟨hg, _, _, _, (take_last K1.out O1.out _).1, (RdP.none_ (by decide)).below ((take_last K1.out O1.out _).2.below (by have := Hh.out.lt; omega) fun k hk => by omega), hok, fun q hq => Hh.out.fit q (by simp_all)⟩
        · go_wp2_with fail
          go_ret
          refine ⟨rfl, ?_, (take_last K1.out O1.out _).2⟩
          rw [hadv.out]
          have hok := wok_adv Hh.out.ok (n := n) (by rw [HN.out]; omega)
          rw [hadv.out] at hok
          exact ⟨hg, _, _, _, (take_last K1.out O1.out _).1, hrd.tail.below ((take_last K1.out O1.out _).2.below (by have := Hh.out.lt; omega) fun k hk => by omega), hok, fun q hq => Hh.out.fit q (by simp_all)⟩
      · have hadv : Hid (adv ((2, 0, t) :: r) used n = ((2, 0, t) :: r, used + n)) := Lib.hid (by simp only [adv]; rw [if_neg (by rw [HN.out]; exact hun)])
        have hz : ((used : Int) + n == (N : Int)) = false := by simp; omega
        go_wp2_with fail
        go_ret
        refine ⟨rfl, ?_, O1.out.trans (Only.drew _)⟩
        rw [hadv.out]
        have hok := wok_adv Hh.out.ok (n := n) (by rw [HN.out]; omega)
        rw [hadv.out] at hok
        exact ⟨hg, _, _, _, K1.out.drew, hrd.below ((O1.out.trans (Only.drew _)).below (by have := Hh.out.lt; omega) fun k hk => by omega), hok, Hh.out.fit⟩
end Go.Proofs.Ytfncpcmaplhojaa
namespace Go.Proofs.Ytfncpcmaplhojaa
open Go.ChangeShapes Go.WideShapes Go.RowKit
set_option linter.unusedVariables false
set_option linter.unusedSimpArgs false
set_option maxRecDepth 100000
set_option maxHeartbeats 4000000

theorem mcut_raw (g : Nat) (v : Value) (p : ByteArray) (c n : Int) (w : World) (h : Blk w g 165 #[v, .string p, .int .i64 c]) (h0 : 0 ≤ c) (h1 : c ≤ 100000000) (h2 : 0 ≤ n) (h3 : n ≤ 100000000) :
    Calls Try.prog 92 #[.pointer (some ⟨g, 0, none⟩), .int .i64 n] w fun e w' => e = .returned (.tuple #[]) ∧ w' = w.setCell ⟨g, 2, none⟩ (.int .i64 (c + n)) := by
  have c2 := h.cell 2
  have f2 := h.frozen 2
  have hl := h.lt
  clear h
  go_enter Try.func92, Try.ntmps92
  go_wp2_with fail
  go_end0
  exact ⟨rfl, rfl⟩
theorem mput_raw (g : Nat) (v : Value) (p s : ByteArray) (c : Int) (w : World) (h : Blk w g 165 #[v, .string p, .int .i64 c]) (h1 : p.size ≤ 100000000) (h2 : s.size ≤ 100000000) :
    Calls Try.prog 93 #[.pointer (some ⟨g, 0, none⟩), .string s] w fun e w' => e = .returned (.tuple #[]) ∧ w' = w.setCell ⟨g, 1, none⟩ (.string (p ++ s)) := by
  have c1 := h.cell 1
  have f1 := h.frozen 1
  have hl := h.lt
  clear h
  go_enter Try.func93, Try.ntmps93
  go_wp2_with fail
  go_end0
  exact ⟨rfl, rfl⟩
theorem mcut_any {B g : Nat} {ob : Option Nat} {us : List U} {w : World} (n : Int) (h : Mk w B g ob us) (hl : us.length ≤ 100000000) (h2 : 0 ≤ n) (h3 : n ≤ 100000000) :
    Calls Try.prog 92 #[.pointer (some ⟨g, 0, none⟩), .int .i64 n] w fun e w' => e = .returned (.tuple #[]) ∧ Mk w' B g ob (us ++ cu n) ∧ Only w w' (fun k => k = g ∨ ob = some k) := by
  obtain ⟨o, p, c, ⟨v, hb, ho, hob⟩, hr⟩ := h
  obtain ⟨_, _, h4, h5, _, _⟩ := hr.bounds
  refine (mcut_raw g v p c n w hb h4 (by omega) h2 h3).mono ?_
  rintro e w' ⟨rfl, rfl⟩
  have hs : Only w (w.setCell ⟨g, 2, none⟩ (.int .i64 (c + n))) (fun k => k = g) := Only.setCell _ _ _ rfl
  refine ⟨rfl, ⟨o, p, c + n, ⟨v, hb.set_ 2 _, ?_, hob⟩, hr.cut h2⟩, hs.mono fun k _ h => .inl h⟩
  exact own_only ho hs fun k hk he => own_blk_ne (t := 165) ho hb (by decide) (by rw [hk, he])
theorem mput_any {B g : Nat} {ob : Option Nat} {us : List U} {w : World} (s : ByteArray) (h : Mk w B g ob us) (hl : us.length ≤ 100000000) (h3 : s.size ≤ 100000000) :
    Calls Try.prog 93 #[.pointer (some ⟨g, 0, none⟩), .string s] w fun e w' => e = .returned (.tuple #[]) ∧ Mk w' B g ob (us ++ pu s) ∧ Only w w' (fun k => k = g ∨ ob = some k) := by
  obtain ⟨o, p, c, ⟨v, hb, ho, hob⟩, hr⟩ := h
  obtain ⟨_, h4, _, _, _, _⟩ := hr.bounds
  refine (mput_raw g v p s c w hb (by omega) h3).mono ?_
  rintro e w' ⟨rfl, rfl⟩
  have hs : Only w (w.setCell ⟨g, 1, none⟩ (.string (p ++ s))) (fun k => k = g) := Only.setCell _ _ _ rfl
  refine ⟨rfl, ⟨o, p ++ s, c, ⟨v, hb.set_ 1 _, ?_, hob⟩, hr.put s⟩, hs.mono fun k _ h => .inl h⟩
  exact own_only ho hs fun k hk he => own_blk_ne (t := 165) ho hb (by decide) (by rw [hk, he])

/-- what flush leaves -/
def FlP (w : World) (B g : Nat) (ob : Option Nat) (o : List Pt) (w' : World) : Prop := ∃ ob', MkS w' B g ob' o emp 0 ∧ MFr w w' g ob ob'
theorem MFr.refl (w : World) (g : Nat) (ob : Option Nat) : MFr w w g ob ob := ⟨Only.refl _ _, .inl rfl⟩
theorem MFr.trans {w w' w'' : World} {g : Nat} {a b c : Option Nat} (h : MFr w w' g a b) (h' : MFr w' w'' g b c) : MFr w w'' g a c := by
  obtain ⟨h1, h2⟩ := h
  obtain ⟨h3, h4⟩ := h'
  have hsz := h1.2.2.2.1
  refine ⟨?_, ?_⟩
  · refine ⟨h3.1.trans h1.1, h3.2.1.trans h1.2.1, h3.2.2.1.trans h1.2.2.1, Nat.le_trans hsz h3.2.2.2.1, fun k hk hs => ?_⟩
    refine (h3.2.2.2.2 k (by omega) ?_).trans (h1.2.2.2.2 k hk hs)
    rintro (rfl | hb)
    · exact hs (.inl rfl)
    · rcases h2 with rfl | h2
      · exact hs (.inr hb)
      · have := h2 k hb; omega
  · rcases h4 with rfl | h4
    · exact h2
    · exact .inr fun k hk => Nat.le_trans hsz (h4 k hk)
theorem MFr.of_only {w w' : World} {g : Nat} {ob : Option Nat} (h : Only w w' (fun k => k = g)) : MFr w w' g ob ob := ⟨h.mono fun _ _ h => .inl h, .inl rfl⟩
theorem fl_app {w w1 : World} {B g : Nat} {ob : Option Nat} {v v1 P C : Value} {o o1 : List Pt} (hb : Blk w g 165 #[v, P, C]) (ho : OwnP w B v o) (hob : v.ownBlock = ob) (h1 : OwnP w1 B v1 o1) (h3 : w.grownBy w1 v.ownBlock)
    (h4 : v1.ownBlock = v.ownBlock ∨ v1.ownBlock = some (w.heap.size + 1)) :
    Blk (w1.setCell ⟨g, 0, none⟩ v1) g 165 #[v1, P, C] ∧ OwnP (w1.setCell ⟨g, 0, none⟩ v1) B v1 o1 ∧ MFr w (w1.setCell ⟨g, 0, none⟩ v1) g ob v1.ownBlock := by
  subst hob
  have hne : some g ≠ v.ownBlock := Ne.symm (own_blk_ne (t := 165) ho hb (by decide))
  have hb1 := hb.grown h3 hne
  have hs := Only.setSelf w1 g 0 v1
  refine ⟨hb1.set_ 0 v1, own_only h1 hs fun k hk he => own_blk_ne (t := 165) h1 hb1 (by decide) (by rw [hk, he]), ?_, ?_⟩
  · exact ((Only.of_grown h3).mono fun k _ h => .inr h).trans (hs.mono fun k _ h => .inl h)
  · rcases h4 with h4 | h4
    · exact .inl h4
    · exact .inr fun k hk => by rw [h4] at hk; injection hk with hk; omega
theorem fl_clear {w : World} {B g : Nat} {v P C : Value} {o : List Pt} (hb : Blk w g 165 #[v, P, C]) (ho : OwnP w B v o) :
    MkS ((w.setCell ⟨g, 1, none⟩ (.string ⟨#[]⟩)).setCell ⟨g, 2, none⟩ (.int .i64 0)) B g v.ownBlock o emp 0 ∧ MFr w ((w.setCell ⟨g, 1, none⟩ (.string ⟨#[]⟩)).setCell ⟨g, 2, none⟩ (.int .i64 0)) g v.ownBlock v.ownBlock := by
  have hs : Only w ((w.setCell ⟨g, 1, none⟩ (.string ⟨#[]⟩)).setCell ⟨g, 2, none⟩ (.int .i64 0)) (fun k => k = g) := (Only.setSelf _ _ _ _).trans (Only.setSelf _ _ _ _)
  exact ⟨⟨v, (hb.set_ 1 _).set_ 2 _, own_only ho hs fun k hk he => own_blk_ne (t := 165) ho hb (by decide) (by rw [hk, he]), rfl⟩, MFr.of_only hs⟩
theorem flush_none (g : Nat) (v : Value) (o : List Pt) (B : Nat) (ob : Option Nat) (c : Int) (w : World) (hb : Blk w g 165 #[v, .string ⟨#[]⟩, .int .i64 c]) (ho : OwnP w B v o) (hob : v.ownBlock = ob) (hc : c ≤ 0) :
    Calls Try.prog 110 #[.pointer (some ⟨g, 0, none⟩)] w fun e w' => e = .returned (.tuple #[]) ∧ FlP w B g ob o w' := by
  have c1 := hb.cell 1
  have f1 := hb.frozen 1
  have c2 := hb.cell 2
  have f2 := hb.frozen 2
  have hl := hb.lt
  have Hb := Lib.hid hb
  have Ho := Lib.hid ho
  have Hob := Lib.hid hob
  clear hb ho hob
  go_enter Try.func110, Try.ntmps110
  go_wp2_with fail
  go_end0
  have hs : Only w ((w.setCell ⟨g, 1, none⟩ (.string ⟨#[]⟩)).setCell ⟨g, 2, none⟩ (.int .i64 0)) (fun k => k = g) := (Only.setSelf _ _ _ _).trans (Only.setSelf _ _ _ _)
  refine ⟨rfl, ob, ⟨v, (Hb.out.set_ 1 _).set_ 2 _, ?_, Hob.out⟩, hs.mono fun k _ h => .inl h, .inl rfl⟩
  exact own_only Ho.out hs fun k hk he => own_blk_ne (t := 165) Ho.out Hb.out (by decide) (by rw [hk, he])
theorem flush_put (g : Nat) (v : Value) (o : List Pt) (B : Nat) (ob : Option Nat) (p : ByteArray) (c : Int) (w : World) (hb : Blk w g 165 #[v, .string p, .int .i64 c]) (ho : OwnP w B v o) (hob : v.ownBlock = ob) (hc : c ≤ 0)
    (hp : p.toList.isEmpty = false) (hlen0 : o.length ≤ 100000000) (hB0 : B ≤ w.heap.size) :
    Calls Try.prog 110 #[.pointer (some ⟨g, 0, none⟩)] w fun e w' => e = .returned (.tuple #[]) ∧ FlP w B g ob (o ++ [(2, 0, p)]) w' := by
  have c0 := hb.cell 0
  have f0 := hb.frozen 0
  have c1 := hb.cell 1
  have f1 := hb.frozen 1
  have c2 := hb.cell 2
  have f2 := hb.frozen 2
  have hl := hb.lt
  obtain ⟨A, cp, hv⟩ := ho.form
  subst hv
  have Hne0 := Lib.hid (Ne.symm (own_blk_ne (t := 165) ho hb (by decide)))
  have Hb0 := Lib.hid hb
  have Ho0 := Lib.hid ho
  have Hob := Lib.hid hob
  clear hb ho hob
  go_enter Try.func110, Try.ntmps110
  go_wp2_with fail
  go_region_law (first | (refine step_app_drew _ rfl (.tmp 11) (.tmp 17) rfl B _ o (by simp [Act.eval, Act.put]) Ho0.out 2 0 p 1 (by simp [Act.eval, Act.put]) (by omega) hB0 ?_; intro v1 w1 g1 g2 g3 g4; obtain ⟨A1, c1', rfl⟩ := g1.form_ (n := o.length + 1) (by simp); have hb1 := Blk.grown Hb0.out g3 Hne0.out; have d0 := hb1.cell 0; have d1 := hb1.cell 1; have d2 := hb1.cell 2; have e0 := hb1.frozen 0; have e1 := hb1.frozen 1; have e2 := hb1.frozen 2; have l1 := hb1.lt))
  all_goals
    have Hb1 := Lib.hid (fl_app Hb0.out Ho0.out Hob.out g1 g3 g4)
    clear hb1 g1 g2 g3 g4
    go_wp2_with fail
    go_end0
    refine ⟨rfl, _, (fl_clear Hb1.out.1 Hb1.out.2.1).1, Hb1.out.2.2.trans (fl_clear Hb1.out.1 Hb1.out.2.1).2⟩
theorem flush_cut (g : Nat) (v : Value) (o : List Pt) (B : Nat) (ob : Option Nat) (c : Int) (w : World) (hb : Blk w g 165 #[v, .string ⟨#[]⟩, .int .i64 c]) (ho : OwnP w B v o) (hob : v.ownBlock = ob) (hc : 0 < c)
    (hlen0 : o.length ≤ 100000000) (hB0 : B ≤ w.heap.size) :
    Calls Try.prog 110 #[.pointer (some ⟨g, 0, none⟩)] w fun e w' => e = .returned (.tuple #[]) ∧ FlP w B g ob (o ++ [(3, c, ⟨#[]⟩)]) w' := by
  have c0 := hb.cell 0
  have f0 := hb.frozen 0
  have c1 := hb.cell 1
  have f1 := hb.frozen 1
  have c2 := hb.cell 2
  have f2 := hb.frozen 2
  have hl := hb.lt
  obtain ⟨A, cp, hv⟩ := ho.form
  subst hv
  have Hne0 := Lib.hid (Ne.symm (own_blk_ne (t := 165) ho hb (by decide)))
  have Hb0 := Lib.hid hb
  have Ho0 := Lib.hid ho
  have Hob := Lib.hid hob
  clear hb ho hob
  go_enter Try.func110, Try.ntmps110
  go_wp2_with fail
  go_region_law (first | (refine step_app_drew _ rfl (.tmp 30) (.tmp 36) rfl B _ o (by simp [Act.eval, Act.put]) Ho0.out 3 c ⟨#[]⟩ 1 (by simp [Act.eval, Act.put]) (by omega) hB0 ?_; intro v1 w1 g1 g2 g3 g4; obtain ⟨A1, c1', rfl⟩ := g1.form_ (n := o.length + 1) (by simp); have hb1 := Blk.grown Hb0.out g3 Hne0.out; have d0 := hb1.cell 0; have d1 := hb1.cell 1; have d2 := hb1.cell 2; have e0 := hb1.frozen 0; have e1 := hb1.frozen 1; have e2 := hb1.frozen 2; have l1 := hb1.lt))
  all_goals
    have Hb1 := Lib.hid (fl_app Hb0.out Ho0.out Hob.out g1 g3 g4)
    clear hb1 g1 g2 g3 g4
    go_wp2_with fail
    go_end0
    refine ⟨rfl, _, (fl_clear Hb1.out.1 Hb1.out.2.1).1, Hb1.out.2.2.trans (fl_clear Hb1.out.1 Hb1.out.2.1).2⟩
theorem flush_both (g : Nat) (v : Value) (o : List Pt) (B : Nat) (ob : Option Nat) (p : ByteArray) (c : Int) (w : World) (hb : Blk w g 165 #[v, .string p, .int .i64 c]) (ho : OwnP w B v o) (hob : v.ownBlock = ob) (hc : 0 < c)
    (hp : p.toList.isEmpty = false) (hlen0 : o.length ≤ 99999999) (hB0 : B ≤ w.heap.size) :
    Calls Try.prog 110 #[.pointer (some ⟨g, 0, none⟩)] w fun e w' => e = .returned (.tuple #[]) ∧ FlP w B g ob (o ++ [(2, 0, p)] ++ [(3, c, ⟨#[]⟩)]) w' := by
  have c0 := hb.cell 0
  have f0 := hb.frozen 0
  have c1 := hb.cell 1
  have f1 := hb.frozen 1
  have c2 := hb.cell 2
  have f2 := hb.frozen 2
  have hl := hb.lt
  obtain ⟨A, cp, hv⟩ := ho.form
  subst hv
  have Hne0 := Lib.hid (Ne.symm (own_blk_ne (t := 165) ho hb (by decide)))
  have Hb0 := Lib.hid hb
  have Ho0 := Lib.hid ho
  have Hob := Lib.hid hob
  clear hb ho hob
  go_enter Try.func110, Try.ntmps110
  go_wp2_with fail
  go_region_law (first | (refine step_app_drew _ rfl (.tmp 11) (.tmp 17) rfl B _ o (by simp [Act.eval, Act.put]) Ho0.out 2 0 p 1 (by simp [Act.eval, Act.put]) (by omega) hB0 ?_; intro v1 w1 g1 g2 g3 g4; obtain ⟨A1, c1', rfl⟩ := g1.form_ (n := o.length + 1) (by simp); have hb1 := Blk.grown Hb0.out g3 Hne0.out; have d0 := hb1.cell 0; have d1 := hb1.cell 1; have d2 := hb1.cell 2; have e0 := hb1.frozen 0; have e1 := hb1.frozen 1; have e2 := hb1.frozen 2; have l1 := hb1.lt))
  all_goals
    have Hb1 := Lib.hid (fl_app Hb0.out Ho0.out Hob.out g1 g3 g4)
    have hB1 : B ≤ w1.heap.size := by have := g2.size; omega
    clear hb1 g1 g2 g3 g4 c0 c1 c2 f0 f1 f2 hl
    go_wp2_with fail
    have hsz1 : (w1.setCell ⟨g, 0, none⟩ (.slice A1 (o.length + 1) c1')).heap.size = w1.heap.size := by simp [World.setCell]
    rw [← hsz1] at hB1
    clear hsz1 d0 d1 d2 e0 e1 e2 l1
    generalize w1.setCell ⟨g, 0, none⟩ (.slice A1 (o.length + 1) c1') = W1 at *
    have hb := Hb1.out.1
    have ho := Hb1.out.2.1
    have c0 := hb.cell 0
    have f0 := hb.frozen 0
    have c1 := hb.cell 1
    have f1 := hb.frozen 1
    have c2 := hb.cell 2
    have f2 := hb.frozen 2
    have hl := hb.lt
    have hlen1 : (o ++ [((2, 0, p) : Pt)]).length ≤ 100000000 := by rw [List.length_append, List.length_singleton]; omega
    have Hne1 := Lib.hid (Ne.symm (own_blk_ne (t := 165) ho hb (by decide)))
    have Hbb1 := Lib.hid hb
    have Ho1 := Lib.hid ho
    clear hb ho
    go_region_law (first | (refine step_app_drew _ rfl (.tmp 30) (.tmp 36) rfl B _ (o ++ [((2, 0, p) : Pt)]) (by simp [Act.eval, Act.put]) Ho1.out 3 c ⟨#[]⟩ 1 (by simp [Act.eval, Act.put]) hlen1 hB1 ?_; intro v1 w1 g1 g2 g3 g4; obtain ⟨A2, c2', rfl⟩ := g1.form_ (n := o.length + 2) (by simp); have hb1 := Blk.grown Hbb1.out g3 Hne1.out; have d0 := hb1.cell 0; have d1 := hb1.cell 1; have d2 := hb1.cell 2; have e0 := hb1.frozen 0; have e1 := hb1.frozen 1; have e2 := hb1.frozen 2; have l1 := hb1.lt))
    all_goals
      have Hb2 := Lib.hid (fl_app Hbb1.out Ho1.out rfl g1 g3 g4)
      clear hb1 g1 g2 g3 g4
      go_wp2_with fail
      go_end0
      refine ⟨rfl, _, (fl_clear Hb2.out.1 Hb2.out.2.1).1, Hb1.out.2.2.trans (Hb2.out.2.2.trans (fl_clear Hb2.out.1 Hb2.out.2.1).2)⟩
end Go.Proofs.Ytfncpcmaplhojaa
namespace Go.Proofs.Ytfncpcmaplhojaa
open Go.ChangeShapes Go.WideShapes Go.RowKit
set_option linter.unusedVariables false
set_option linter.unusedSimpArgs false
set_option maxRecDepth 100000
set_option maxHeartbeats 4000000

theorem bump_snoc (n : Int) (l : List Pt) (p : Pt) : bump n (l ++ [p]) = if p.1 = 1 then l ++ [(1, p.2.1 + n, emp)] else l ++ [p] ++ [(1, n, emp)] := by
  induction l with
  | nil => simp only [List.nil_append, bump]; split <;> rfl
  | cons q l ih =>
    rcases hl : l ++ [p] with _ | ⟨x, r⟩
    · simp at hl
    · have e : bump n (q :: l ++ [p]) = q :: bump n (l ++ [p]) := by
        rw [List.cons_append, hl]; rfl
      rw [e, ih]
      split <;> simp
theorem pc_set (I : List Pt) (k m u : Int) (t : ByteArray) : (pc (I ++ [(k, m, t)])).set (I.length * 3 + 1) (.int .i64 u) = pc (I ++ [(k, u, t)]) := by
  rw [pc_append, pc_append, List.set_append_right _ _ (by rw [pc_len]; omega), pc_len, show I.length * 3 + 1 - I.length * 3 = 1 by omega]
  rfl
/-- the last part grows -/
theorem keep_last {w : World} {B g h cp : Nat} {I : List Pt} {m n : Int} {t : ByteArray} {P C : Value} (hb : Blk w g 165 #[.slice (some ⟨h, 0, none⟩) (I.length + 1) cp, P, C])
    (ho : OwnP w B (.slice (some ⟨h, 0, none⟩) (I.length + 1) cp) (I ++ [(1, m, t)])) (hgh : g ≠ h) :
    Blk (w.setCell ⟨h, I.length * 3 + 1, none⟩ (.int .i64 (m + n))) g 165 #[.slice (some ⟨h, 0, none⟩) (I.length + 1) cp, P, C] ∧
      OwnP (w.setCell ⟨h, I.length * 3 + 1, none⟩ (.int .i64 (m + n))) B (.slice (some ⟨h, 0, none⟩) (I.length + 1) cp) (I ++ [(1, m + n, t)]) ∧
      MFr w (w.setCell ⟨h, I.length * 3 + 1, none⟩ (.int .i64 (m + n))) g (some h) (some h) := by
  refine ⟨hb.far hgh _, ?_, ?_, .inl rfl⟩
  · unfold OwnP at ho ⊢
    rw [List.length_append, List.length_singleton] at ho ⊢
    have := (World.ownsRow.stored ho (I.length * 3 + 1) (.int .i64 (m + n))).1
    rwa [pc_set] at this
  · exact (Only.setSelf w h (I.length * 3 + 1) (.int .i64 (m + n))).mono fun k _ hk => .inr (by rw [hk])
theorem pend_none (p : ByteArray) (c : Int) (hp : p.size = 0) (hc : c ≤ 0) : pend p c = [] := by unfold pend; rw [if_pos hp, if_neg (by omega)]; rfl
theorem flush_any {B g : Nat} {ob : Option Nat} {us : List U} {o : List Pt} {p : ByteArray} {c : Int} {w : World} (h : MkS w B g ob o p c) (hr : MRep us o p c) (hl : us.length ≤ 99999999) (hB : B ≤ w.heap.size) :
    Calls Try.prog 110 #[.pointer (some ⟨g, 0, none⟩)] w fun e w' => e = .returned (.tuple #[]) ∧ FlP w B g ob (grp (cz us)) w' := by
  rw [← hr.flush]
  obtain ⟨v, hb, ho, hob⟩ := h
  obtain ⟨h1, _, h3, _, _, _⟩ := hr.bounds
  unfold pend
  rcases str_cases p with rfl | ⟨hp, hp1⟩
  · rw [if_pos (show (⟨#[]⟩ : ByteArray).size = 0 from rfl), List.nil_append]
    by_cases hc : 0 < c
    · rw [if_pos hc]
      exact flush_cut g v o B ob c w hb ho hob hc (by omega) hB
    · rw [if_neg hc, List.append_nil]
      exact flush_none g v o B ob c w hb ho hob (by omega)
  · rw [if_neg (by omega)]
    by_cases hc : 0 < c
    · rw [if_pos hc, ← List.append_assoc]
      exact flush_both g v o B ob p c w hb ho hob hc hp (by omega) hB
    · rw [if_neg hc, List.append_nil]
      exact flush_put g v o B ob p c w hb ho hob (by omega) hp (by omega) hB
theorem mdone_any {B g : Nat} {ob : Option Nat} {us : List U} {w : World} (h : Mk w B g ob us) (hl : us.length ≤ 99999999) (hB : B ≤ w.heap.size) :
    Calls Try.prog 95 #[.pointer (some ⟨g, 0, none⟩)] w fun e w' => ∃ v ob', e = .returned v ∧ OwnP w' B v (grp (cz us)) ∧ v.ownBlock = ob' ∧ MFr w w' g ob ob' := by
  obtain ⟨o, p, c, hs, hr⟩ := h
  have Hs := Lib.hid hs
  have Hr := Lib.hid hr
  clear hs hr
  go_enter Try.func95, Try.ntmps95
  go_wp2_with fail
  refine (flush_any Hs.out Hr.out hl hB).mono ?_
  rintro e w1 ⟨rfl, ob1, ⟨v, hb, ho, hob⟩, hfr⟩
  have c0 := hb.cell 0
  have hl1 := hb.lt
  have Hfin : Hid (∃ v_1 ob', Ending.returned v = .returned v_1 ∧ OwnP w1 B v_1 (grp (cz us)) ∧ v_1.ownBlock = ob' ∧ MFr w w1 g ob ob') := Lib.hid ⟨v, ob1, rfl, ho, hob, hfr⟩
  obtain ⟨A1, c1, hv⟩ := ho.form
  subst hv
  clear hb ho hob hfr
  go_wp2_with fail
  go_ret
  exact Hfin.out
theorem mkeep_zero {B g : Nat} {ob : Option Nat} {us : List U} {w : World} (h : Mk w B g ob us) :
    Calls Try.prog 94 #[.pointer (some ⟨g, 0, none⟩), .int .i64 0] w fun e w' => e = .returned (.tuple #[]) ∧ w = w' := by
  clear h
  go_enter Try.func94, Try.ntmps94
  go_wp2_with fail
  refine bodyPost_ret (results_none rfl _ _ _) rfl ?_
  exact ⟨rfl, rfl⟩
theorem mkeep_pos {B g : Nat} {ob : Option Nat} {us : List U} {w : World} (n : Int) (h : Mk w B g ob us) (hl : us.length ≤ 99999990) (hB : B ≤ w.heap.size) (hn : 0 < n) (hn2 : n ≤ 100000000) :
    Calls Try.prog 94 #[.pointer (some ⟨g, 0, none⟩), .int .i64 n] w fun e w' => e = .returned (.tuple #[]) ∧ ∃ ob', Mk w' B g ob' (us ++ ku n) ∧ MFr w w' g ob ob' := by
  obtain ⟨o, p, c, hs, hr⟩ := h
  have hk := hr.keep hn
  rw [hr.flush] at hk
  have Hk := Lib.hid hk
  have Hs := Lib.hid hs
  have Hr := Lib.hid hr
  have hne : (n == 0) = false := by simp; omega
  have hfine := fine_grp (cz us)
  have hbd := len_units (grp (cz us)) hfine
  rw [units_grp, len_cz] at hbd
  have Hlg := Lib.hid (len_grp (cz us))
  have Hlc := Lib.hid (len_cz us)
  have Hfine := Lib.hid hfine
  have Hbd := Lib.hid hbd
  clear hs hr hk hfine hbd
  go_enter Try.func94, Try.ntmps94
  go_wp2_with fail
  refine (flush_any Hs.out Hr.out (by omega) hB).mono ?_
  rintro e w1 ⟨rfl, ob1, ⟨v, hb, ho, hob⟩, hfr⟩
  have hB1 : B ≤ w1.heap.size := by have := hfr.1.2.2.2.1; omega
  generalize hO : grp (cz us) = O at *
  have hlenO : O.length ≤ 99999990 := by have := Hlg.out; have := Hlc.out; omega
  clear hO
  have Hfr := Lib.hid hfr
  have Hob := Lib.hid hob
  have c0 := hb.cell 0
  have f0 := hb.frozen 0
  have c1 := hb.cell 1
  have c2 := hb.cell 2
  have hl1 := hb.lt
  have Hne := Lib.hid (Ne.symm (own_blk_ne (t := 165) ho hb (by decide)))
  have Hb := Lib.hid hb
  have Ho := Lib.hid ho
  clear hb hob hfr
  rcases List.eq_nil_or_concat O with rfl | ⟨I, l, rfl⟩
  · obtain ⟨A, cp, hv⟩ := ho.form_ (n := 0) rfl
    subst hv
    clear ho
    have hbn : Hid (bump n [] = [] ++ [(1, n, emp)]) := Lib.hid rfl
    go_wp2_with (first | (at_builtin; refine wpList_app_part _ rfl (.tmp 44) (.tmp 47) rfl B _ [] rfl Ho.out 1 n ⟨#[]⟩ 1 rfl (by simp) hB1 ?_; intro v2 w2 g1 g2 g3 g4; obtain ⟨A2, c2', rfl⟩ := g1.form_ (n := 1) rfl; have hb1 := Blk.grown Hb.out g3 Hne.out; have d0 := hb1.cell 0; have d1 := hb1.cell 1; have d2 := hb1.cell 2; have e0 := hb1.frozen 0; have e1 := hb1.frozen 1; have e2 := hb1.frozen 2; have l1 := hb1.lt))
    go_end0
    have Hf := fl_app Hb.out Ho.out Hob.out g1 g3 g4
    exact ⟨rfl, _, ⟨_, _, _, ⟨_, Hf.1, Hf.2.1, rfl⟩, by have := Hk.out; rw [hbn.out] at this; exact this⟩, Hfr.out.trans Hf.2.2⟩
  · rw [List.concat_eq_append] at *
    have hpc : pc (I ++ [l]) ≠ [] := by rw [pc_append]; simp [pc, pcells]
    obtain ⟨h, cp, hv0, hnc, hcm⟩ := own_nil ho hpc
    have hv := hv0
    rw [List.length_append, List.length_singleton] at hv hlenO
    subst hv
    have hcell := fun j hj => World.ownsRow.cellAt (show w1.ownsRow B 45 3 (.slice (some ⟨h, 0, none⟩) (I.length + 1) cp) (I.length + 1) (pc (I ++ [l])) from by have := ho; unfold OwnP at this; rwa [List.length_append, List.length_singleton] at this) j hj
    have hlast : (I ++ [l])[I.length]'(by simp) = l := by simp
    obtain ⟨p0, p1, p2⟩ := pc_at (I ++ [l]) I.length (by simp)
    rw [hlast] at p0 p1 p2
    have hc0 := (hcell (I.length * 3) (by omega)).trans p0
    have hc1 := (hcell (I.length * 3 + 1) (by omega)).trans p1
    have hfz : w1.frozen? ⟨h, I.length * 3 + 1, none⟩ = false := World.ownsRow.frozenAt (show w1.ownsRow B 45 3 (.slice (some ⟨h, 0, none⟩) (I.length + 1) cp) (I.length + 1) (pc (I ++ [l])) from by have := ho; unfold OwnP at this; rwa [List.length_append, List.length_singleton] at this) _
    have hsh := Hfine.out l (by simp)
    have hbl := Hbd.out l (by simp)
    have hlt := own_lt ho h rfl
    obtain ⟨kd, m, t⟩ := l
    simp only at hc0 hc1
    have hI0 : (0 : Int) ≤ (I.length : Int) := by omega
    have hgh : g ≠ h := fun e => Hne.out (by rw [e]; rfl)
    have Hbs := Lib.hid (bump_snoc n I (kd, m, t))
    clear hcell p0 p1 p2 hlast hpc hv0
    by_cases hkd : kd = 1
    · subst hkd
      have hm : 1 ≤ m ∧ m ≤ us.length ∧ t = emp := by
        rcases hsh with ⟨_, h2, h3⟩ | ⟨h2, _, _⟩
        · simp only [lenP] at hbl h2 h3
          simp at hbl
          exact ⟨h2, by omega, h3⟩
        · simp at h2
      obtain ⟨hm1, hm2, rfl⟩ := hm
      have hm3 : m ≤ 99999990 := by omega
      clear hsh hbl ho hm2
      go_wp2_with fail
      refine bodyPost_ret (results_none rfl _ _ _) rfl ?_
      have hK := keep_last (n := n) Hb.out Ho.out hgh
      have hob : ob1 = some h := by rw [← Hob.out]; rfl
      subst hob
      refine ⟨rfl, some h, ⟨_, _, _, ⟨_, hK.1, hK.2.1, rfl⟩, ?_⟩, Hfr.out.trans hK.2.2⟩
      have h1 := Hk.out
      have h2 := Hbs.out
      rw [if_pos trivial] at h2
      rw [h2] at h1
      exact h1
    · have hkd' : (kd == 1) = false := by simpa using hkd
      have hlb : (I ++ [((kd, m, t) : Pt)]).length ≤ 100000000 := by rw [List.length_append, List.length_singleton]; omega
      have Hkd := Lib.hid hkd
      clear hsh hbl ho hkd
      go_wp2_with (first | (at_builtin; refine wpList_app_part _ rfl (.tmp 44) (.tmp 47) rfl B _ (I ++ [((kd, m, t) : Pt)]) rfl Ho.out 1 n ⟨#[]⟩ 1 rfl hlb hB1 ?_; intro v2 w2 g1 g2 g3 g4; obtain ⟨A2, c2', rfl⟩ := g1.form_ (n := I.length + 2) (by simp); have hb1 := Blk.grown Hb.out g3 Hne.out; have d0 := hb1.cell 0; have d1 := hb1.cell 1; have d2 := hb1.cell 2; have e0 := hb1.frozen 0; have e1 := hb1.frozen 1; have e2 := hb1.frozen 2; have l1 := hb1.lt))
      go_end0
      have Hf := fl_app Hb.out Ho.out Hob.out g1 g3 g4
      refine ⟨rfl, _, ⟨_, _, _, ⟨_, Hf.1, Hf.2.1, rfl⟩, ?_⟩, Hfr.out.trans Hf.2.2⟩
      have h1 := Hk.out
      rw [Hbs.out, if_neg Hkd.out] at h1
      exact h1
theorem mkeep_any {B g : Nat} {ob : Option Nat} {us : List U} {w : World} (n : Int) (h : Mk w B g ob us) (hl : us.length ≤ 99999990) (hB : B ≤ w.heap.size) (hn : 0 ≤ n) (hn2 : n ≤ 100000000) :
    Calls Try.prog 94 #[.pointer (some ⟨g, 0, none⟩), .int .i64 n] w fun e w' => e = .returned (.tuple #[]) ∧ ∃ ob', Mk w' B g ob' (us ++ ku n) ∧ MFr w w' g ob ob' := by
  rcases (show n = 0 ∨ 0 < n by omega) with rfl | h0
  · refine (mkeep_zero h).mono ?_
    rintro e w' ⟨rfl, rfl⟩
    exact ⟨rfl, ob, by simpa [ku] using h, MFr.refl _ _ _⟩
  · exact mkeep_pos n h hl hB h0 hn2
end Go.Proofs.Ytfncpcmaplhojaa
