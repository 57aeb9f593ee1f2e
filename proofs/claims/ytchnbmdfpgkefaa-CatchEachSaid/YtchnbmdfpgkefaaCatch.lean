/- Contracts of catchup.Of. -/
import Derived.Test.YtchnbmdfpgkefaaBetween
import Derived.Test.YtchnbmdfpgkefaaMeet
namespace Go.Proofs.Ytchnbmdfpgkefaa
open Go.ChangeShapes Go.WideShapes Go.RowKit
set_option linter.unusedVariables false
set_option linter.unusedSimpArgs false
set_option maxRecDepth 100000
set_option maxHeartbeats 4000000

theorem results_tmp4 {fn : Func} {t u v x : Tmp} (h : fn.results = #[.tmp t, .tmp u, .tmp v, .tmp x]) (tmps : Array Value) (P : Program) (w : World) :
    (results fn tmps).run P w = .ok (.tuple #[tmps.getD t undef, tmps.getD u undef, tmps.getD v undef, tmps.getD x undef]) w := by
  simp [results, h]
def btwL (base : ByteArray) (l : List Rv) (i k : Nat) : List Pt := btw (allL (txt base l i).size) ((l.drop i).take (k - i))
theorem meet_rdm (a b : List Pt) (A A' : Option Addr) (n n' c c' : Nat) (w : World) (h : RdP w w.heap.size A n c a) (h' : RdP w w.heap.size A' n' c' b) (z : Int) (x y : List Pt) (hz : meetE a b = z) (hx : meetC a b = x) (hy : meetD a b = y) :
    Calls Try.prog 27 #[.slice A n c, .slice A' n' c'] w fun e w' => ∃ A1 n1 c1 A2 n2 c2, e = .returned (.tuple #[.slice A1 n1 c1, .slice A2 n2 c2, .int .i64 z]) ∧
      RdP w' w'.heap.size A1 n1 c1 x ∧ RdP w' w'.heap.size A2 n2 c2 y ∧ Below w.heap.size w w' := by
  subst hz; subst hx; subst hy
  refine (meet_rd a b A A' n n' c c' w h h').mono ?_
  rintro e w' ⟨A1, c1, A2, c2, rfl, h1, h2, hb⟩
  exact ⟨_, _, _, _, _, _, rfl, h1, h2, hb⟩
/-- what goes wrong -/
def CaErr (base : ByteArray) (l : List Rv) (r : Int) (mine : List Pt) (E : Int) : Prop :=
  E ≠ 0 ∧ ((txE base l = E) ∨ (txE base l = 0 ∧ (r < 0 ∨ (l.length : Int) < r) ∧ E = 1) ∨ ∃ k : Nat, r = (k : Int) ∧ k ≤ l.length ∧ txE base l = 0 ∧ (doE mine (txt base l k) = E ∨ (doE mine (txt base l k) = 0 ∧ meetE (btwL base l k l.length) mine = E)))
/-- all goes well -/
def CaOk (base : ByteArray) (l : List Rv) (k : Nat) (mine : List Pt) : Prop := k ≤ l.length ∧ txE base l = 0 ∧ doE mine (txt base l k) = 0 ∧ meetE (btwL base l k l.length) mine = 0
theorem ca_cases (base : ByteArray) (l : List Rv) (r : Int) (mine : List Pt) : (∃ E, CaErr base l r mine E) ∨ ∃ k : Nat, r = (k : Int) ∧ CaOk base l k mine := by
  by_cases h1 : txE base l = 0
  · by_cases h2 : r < 0 ∨ (l.length : Int) < r
    · exact .inl ⟨1, by omega, .inr (.inl ⟨h1, h2, rfl⟩)⟩
    · obtain ⟨k, rfl⟩ : ∃ k : Nat, r = (k : Int) := ⟨r.toNat, by omega⟩
      by_cases h3 : doE mine (txt base l k) = 0
      · by_cases h4 : meetE (btwL base l k l.length) mine = 0
        · exact .inr ⟨k, rfl, by omega, h1, h3, h4⟩
        · exact .inl ⟨_, h4, .inr (.inr ⟨k, rfl, by omega, h1, .inr ⟨h3, rfl⟩⟩)⟩
      · exact .inl ⟨_, h3, .inr (.inr ⟨k, rfl, by omega, h1, .inl rfl⟩)⟩
  · exact .inl ⟨_, h1, .inl rfl⟩
theorem catch_err (base : ByteArray) (l : List Rv) (mine : List Pt) (A A' : Option Addr) (n c n' c' : Nat) (r E : Int) (w : World) (h : RdR w w.heap.size A n c l) (h' : RdP w w.heap.size A' n' c' mine) (hbs : base.size ≤ 9223372036854775807) (he : CaErr base l r mine E) :
    Calls Try.prog 15 #[.string base, .slice A n c, .int .i64 r, .slice A' n' c'] w fun e w' => e = .returned (.tuple #[.slice none 0 0, .slice none 0 0, .slice none 0 0, .int .i64 E]) ∧ Below w.heap.size w w' := by
  obtain ⟨hE0, hc⟩ := he
  have hne : (E != 0) = true := by simpa using hE0
  have hn : n = l.length := h.1
  have H := Lib.hid h
  have H' := Lib.hid h'
  rcases hc with hc | ⟨hc, hr, rfl⟩ | ⟨k, rfl, hk, hc, hd⟩
  · have hcall := between_err base l A n c _ r n w h (Nat.le_refl _) hbs (by rw [hc]; exact hE0)
    rw [hc] at hcall
    have Hc := Lib.hid hcall
    clear hcall h h' hn hc
    go_enter Try.func15, Try.ntmps15
    go_wp2_with fail
    refine Hc.out.mono ?_
    rintro e w1 ⟨rfl, hb⟩
    go_wp2_with fail
    (try simp only [Exit.inBlock, Exit.then]); refine bodyPost_ret (results_tmp4 rfl _ _ _) rfl ?_
    exact ⟨rfl, hb⟩
  · have hcall := between_arg base l A n c _ r n w h (Nat.le_refl _) hbs hc (by omega)
    have Hc := Lib.hid hcall
    clear hcall h h' hn hc hr
    go_enter Try.func15, Try.ntmps15
    go_wp2_with fail
    refine Hc.out.mono ?_
    rintro e w1 ⟨rfl, hb⟩
    go_wp2_with fail
    (try simp only [Exit.inBlock, Exit.then]); refine bodyPost_ret (results_tmp4 rfl _ _ _) rfl ?_
    exact ⟨rfl, hb⟩
  · have hcall := between_good base l A n c _ k n w h (Nat.le_refl _) hc (by omega) (Nat.le_refl _) _ rfl
    have Hc := Lib.hid hcall
    have Hk := Lib.hid hk
    have He := Lib.hid hc
    have Hn := Lib.hid hn
    have hp := txE_parts hc
    have hts := txt_size l base k hp.1
    have Hd := Lib.hid hd
    unfold btwL at Hd
    rw [← hn] at Hd
    clear hcall h h' hk hp hc hd hn
    go_enter Try.func15, Try.ntmps15
    go_wp2_with fail
    refine Hc.out.mono ?_
    rintro e w1 ⟨A1, n1, c1, rfl, hr1, hb1⟩
    have Hr1 := Lib.hid hr1
    have H1 := Lib.hid (H.out.step hb1)
    have H1' := Lib.hid (H'.out.step hb1)
    clear hr1 H H'
    go_wp2_with fail
    refine (rtext_good base l A n c _ k _ H1.out (Nat.le_refl _) He.out Hk.out).mono ?_
    rintro e w2 ⟨rfl, hb2⟩
    have hw2 := hb1.trans (hb2.mono hb1.size)
    have Hr2 := Lib.hid (Hr1.out.step hb2)
    have H2' := Lib.hid (H1'.out.step hb2)
    clear hb1 hb2 H1 H1' Hr1
    obtain ⟨S, hS⟩ : ∃ S, txt base l k = S := ⟨_, rfl⟩
    obtain ⟨D, hD⟩ : ∃ D, btw (allL (txt base l k).size) ((l.drop k).take (n - k)) = D := ⟨_, rfl⟩
    rw [hD] at Hr2 Hd
    rw [hS] at Hd hts ⊢
    clear hS hD
    go_wp2_with fail
    obtain ⟨f, hf⟩ : ∃ f, fitsE mine S.size = f := ⟨_, rfl⟩
    have hcf := fits_any mine A' n' c' _ S.size w2 H2'.out (Nat.le_refl _)
    rw [hf] at hcf
    refine hcf.mono ?_
    rintro e w3 ⟨rfl, hb3⟩
    have hw3 := hw2.trans (hb3.mono hw2.size)
    have Hr3 := Lib.hid (Hr2.out.step hb3)
    have H3' := Lib.hid (H2'.out.step hb3)
    clear hb3 Hr2 H2' hcf
    rcases Hd.out with hd | ⟨hd, hm⟩
    · have hfE : f = E := by rw [← hf]; exact hd
      subst hfE
      clear hf hd
      go_wp2_with fail
      (try simp only [Exit.inBlock, Exit.then]); refine bodyPost_ret (results_tmp4 rfl _ _ _) rfl ?_
      exact ⟨rfl, hw3⟩
    · have hf0 : f = 0 := by rw [← hf]; exact hd
      subst hf0
      have Hm := Lib.hid hm
      clear hf hd hm
      go_wp2_with fail
      refine (meet_rdm D mine A1 A' n1 n' c1 c' _ Hr3.out H3'.out E _ _ Hm.out rfl rfl).mono ?_
      rintro e w4 ⟨A4, n4, c4, A5, n5, c5, rfl, hr4, hr5, hb4⟩
      have hw4 := hw3.trans (hb4.mono hw3.size)
      clear hr4 hr5 hb4
      go_wp2_with fail
      (try simp only [Exit.inBlock, Exit.then]); refine bodyPost_ret (results_tmp4 rfl _ _ _) rfl ?_
      exact ⟨rfl, hw4⟩
theorem catch_good (base : ByteArray) (l : List Rv) (mine : List Pt) (A A' : Option Addr) (n c n' c' k : Nat) (w : World) (h : RdR w w.heap.size A n c l) (h' : RdP w w.heap.size A' n' c' mine) (he : CaOk base l k mine) (D X Y : List Pt)
    (hD : btwL base l k l.length = D) (hX : meetD D mine = X) (hY : meetC D mine = Y) :
    Calls Try.prog 15 #[.string base, .slice A n c, .int .i64 k, .slice A' n' c'] w fun e w' => ∃ A1 n1 c1 A2 n2 c2 A3 n3 c3, e = .returned (.tuple #[.slice A1 n1 c1, .slice A2 n2 c2, .slice A3 n3 c3, .int .i64 0]) ∧
      RdP w' w'.heap.size A1 n1 c1 D ∧ RdP w' w'.heap.size A2 n2 c2 X ∧ RdP w' w'.heap.size A3 n3 c3 Y ∧ Below w.heap.size w w' := by
  obtain ⟨hk, hc, hd, hm⟩ := he
  have hn : n = l.length := h.1
  have H := Lib.hid h
  have H' := Lib.hid h'
  have hcall := between_good base l A n c _ k n w h (Nat.le_refl _) hc (by omega) (Nat.le_refl _) D (by rw [← hD, hn]; rfl)
  have Hc := Lib.hid hcall
  have Hk := Lib.hid hk
  have He := Lib.hid hc
  rw [hD] at hm
  have Hm := Lib.hid hm
  have hp := txE_parts hc
  have hts := txt_size l base k hp.1
  have Hd := Lib.hid hd
  have HX := Lib.hid hX
  have HY := Lib.hid hY
  clear hcall h h' hk hp hc hd hm hX hY hD hn
  go_enter Try.func15, Try.ntmps15
  go_wp2_with fail
  refine Hc.out.mono ?_
  rintro e w1 ⟨A1, n1, c1, rfl, hr1, hb1⟩
  have Hr1 := Lib.hid hr1
  have H1 := Lib.hid (H.out.step hb1)
  have H1' := Lib.hid (H'.out.step hb1)
  clear hr1 H H'
  go_wp2_with fail
  refine (rtext_good base l A n c _ k _ H1.out (Nat.le_refl _) He.out Hk.out).mono ?_
  rintro e w2 ⟨rfl, hb2⟩
  have hw2 := hb1.trans (hb2.mono hb1.size)
  have Hr2 := Lib.hid (Hr1.out.step hb2)
  have H2' := Lib.hid (H1'.out.step hb2)
  clear hb1 hb2 H1 H1' Hr1
  obtain ⟨S, hS⟩ : ∃ S, txt base l k = S := ⟨_, rfl⟩
  rw [hS] at Hd hts ⊢
  clear hS
  go_wp2_with fail
  have hcf := fits_any mine A' n' c' _ S.size w2 H2'.out (Nat.le_refl _)
  rw [show fitsE mine (S.size : Nat) = 0 from Hd.out] at hcf
  refine hcf.mono ?_
  rintro e w3 ⟨rfl, hb3⟩
  have hw3 := hw2.trans (hb3.mono hw2.size)
  have Hr3 := Lib.hid (Hr2.out.step hb3)
  have H3' := Lib.hid (H2'.out.step hb3)
  clear hb3 Hr2 H2' hcf
  go_wp2_with fail
  refine (meet_rdm D mine A1 A' n1 n' c1 c' _ Hr3.out H3'.out 0 _ _ Hm.out HY.out HX.out).mono ?_
  rintro e w4 ⟨A4, n4, c4, A5, n5, c5, rfl, hr4, hr5, hb4⟩
  have hw4 := hw3.trans (hb4.mono hw3.size)
  have Hr4 := Lib.hid (Hr3.out.step hb4)
  have Hy := Lib.hid hr4
  have Hx := Lib.hid hr5
  clear hr4 hr5 hb4 Hr3
  go_wp2_with fail
  (try simp only [Exit.inBlock, Exit.then]); refine bodyPost_ret (results_tmp4 rfl _ _ _) rfl ?_
  exact ⟨_, _, _, _, _, _, _, _, _, rfl, Hr4.out, Hx.out, Hy.out, hw4⟩
end Go.Proofs.Ytchnbmdfpgkefaa
