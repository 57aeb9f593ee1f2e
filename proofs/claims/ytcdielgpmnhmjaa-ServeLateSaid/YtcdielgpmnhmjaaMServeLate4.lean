/- Contracts of catchup.Of. Who comes late; plain lists, no program. What cuts nothing, and meets two as one; plain lists, no program. What is left behind revisions that cut nothing, one after the other; plain lists, no program. Contract of the laws' helper cuts. Contract of the laws' helper plain. -/
import Derived.Test.YtcdielgpmnhmjaaMServeLate3
import Derived.Test.YtcdielgpmnhmjaaK14
import Derived.Test.YtcdielgpmnhmjaaK20
import Derived.Test.YtcdielgpmnhmjaaK13
import Derived.Test.YtcdielgpmnhmjaaK3
import Derived.Test.YtcdielgpmnhmjaaK6
namespace Go.Proofs.Ytcdielgpmnhmjaa
open Go.ChangeShapes Go.WideShapes Go.RowKit
set_option linter.unusedVariables false
set_option linter.unusedSimpArgs false
set_option maxRecDepth 100000
set_option maxHeartbeats 4000000

theorem results_tmp4 {fn : Func} {t u v x : Tmp} (h : fn.results = #[.tmp t, .tmp u, .tmp v, .tmp x]) (tmps : Array Value) (P : Program) (w : World) :
    (results fn tmps).run P w = .ok (.tuple #[tmps.getD t undef, tmps.getD u undef, tmps.getD v undef, tmps.getD x undef]) w := by
  simp [results, h]
def btwL (base : ByteArray) (l : List Rv) (i k : Nat) : List Pt := btw (allL (txt base l i).size) ((l.drop i).take (k - i))
theorem meet_rdm (a b : List Pt) (A A' : Option Addr) (n n' c c' : Nat) (w : World) (h : RdP w w.heap.size A n c a) (h' : RdP w w.heap.size A' n' c' b) (z : Int) (x y : List Pt) (hz : meetE a b = z) (hx : meetC a b = x) (hy : meetD a b = y) :
    Calls Try.prog 73 #[.slice A n c, .slice A' n' c'] w fun e w' => ∃ A1 n1 c1 A2 n2 c2, e = .returned (.tuple #[.slice A1 n1 c1, .slice A2 n2 c2, .int .i64 z]) ∧
      RdP w' w'.heap.size A1 n1 c1 x ∧ RdP w' w'.heap.size A2 n2 c2 y ∧ Below w.heap.size w w' := by
  subst hz; subst hx; subst hy
  refine (meet_rd a b A A' n n' c c' w h h').mono ?_
  rintro e w' ⟨A1, c1, A2, c2, rfl, h1, h2, hb⟩
  exact ⟨_, _, _, _, _, _, rfl, h1, h2, hb⟩
/-- what goes wrong -/
def CaErr (base : ByteArray) (l : List Rv) (r : Int) (mine : List Pt) (E : Int) : Prop :=
  E ≠ 0 ∧ ((txE base l = E) ∨ (txE base l = 0 ∧ (r < 0 ∨ (l.length : Int) < r) ∧ E = 1) ∨ ∃ k : Nat, r = (k : Int) ∧ k ≤ l.length ∧ txE base l = 0 ∧ (doE mine (txt base l k) = E ∨ (doE mine (txt base l k) = 0 ∧ meetE (btwL base l k l.length) mine = E)))
/-- all goes well -/
def CaOk (base : ByteArray) (l : List Rv) (k : Nat) (mine : List Pt) : Prop := k ≤ l.length ∧ txE base l = 0 ∧ doE mine (txt base l k) = 0 ∧ meetE (btwL base l k l.length) mine = 0
theorem ca_cases (base : ByteArray) (l : List Rv) (r : Int) (mine : List Pt) : (∃ E, CaErr base l r mine E) ∨ ∃ k : Nat, r = (k : Int) ∧ CaOk base l k mine := by
  by_cases h1 : txE base l = 0
  · by_cases h2 : r < 0 ∨ (l.length : Int) < r
    · exact .inl ⟨1, by omega, .inr (.inl ⟨h1, h2, rfl⟩)⟩
    · obtain ⟨k, rfl⟩ : ∃ k : Nat, r = (k : Int) := ⟨r.toNat, by omega⟩
      by_cases h3 : doE mine (txt base l k) = 0
      · by_cases h4 : meetE (btwL base l k l.length) mine = 0
        · exact .inr ⟨k, rfl, by omega, h1, h3, h4⟩
        · exact .inl ⟨_, h4, .inr (.inr ⟨k, rfl, by omega, h1, .inr ⟨h3, rfl⟩⟩)⟩
      · exact .inl ⟨_, h3, .inr (.inr ⟨k, rfl, by omega, h1, .inl rfl⟩)⟩
  · exact .inl ⟨_, h1, .inl rfl⟩
theorem catch_err (base : ByteArray) (l : List Rv) (mine : List Pt) (A A' : Option Addr) (n c n' c' : Nat) (r E : Int) (w : World) (h : RdR w w.heap.size A n c l) (h' : RdP w w.heap.size A' n' c' mine) (hbs : base.size ≤ 9223372036854775807) (he : CaErr base l r mine E) :
    Calls Try.prog 35 #[.string base, .slice A n c, .int .i64 r, .slice A' n' c'] w fun e w' => e = .returned (.tuple #[.slice none 0 0, .slice none 0 0, .slice none 0 0, .int .i64 E]) ∧ Below w.heap.size w w' := by
  obtain ⟨hE0, hc⟩ := he
  have hne : (E != 0) = true := by simpa using hE0
  have hn : n = l.length := h.1
  have H := Lib.hid h
  have H' := Lib.hid h'
  rcases hc with hc | ⟨hc, hr, rfl⟩ | ⟨k, rfl, hk, hc, hd⟩
  · have hcall := between_err base l A n c _ r n w h (Nat.le_refl _) hbs (by rw [hc]; exact hE0)
    rw [hc] at hcall
    have Hc := Lib.hid hcall
    clear hcall h h' hn hc
    go_enter Try.func35, Try.ntmps35
    go_wp2_with fail
    refine Hc.out.mono ?_
    rintro e w1 ⟨rfl, hb⟩
    go_wp2_with fail
    (try simp only [Exit.inBlock, Exit.then]); refine bodyPost_ret (results_tmp4 rfl _ _ _) rfl ?_
    exact ⟨rfl, hb⟩
  · have hcall := between_arg base l A n c _ r n w h (Nat.le_refl _) hbs hc (by omega)
    have Hc := Lib.hid hcall
    clear hcall h h' hn hc hr
    go_enter Try.func35, Try.ntmps35
    go_wp2_with fail
    refine Hc.out.mono ?_
    rintro e w1 ⟨rfl, hb⟩
    go_wp2_with fail
    (try simp only [Exit.inBlock, Exit.then]); refine bodyPost_ret (results_tmp4 rfl _ _ _) rfl ?_
    exact ⟨rfl, hb⟩
  · have hcall := between_good base l A n c _ k n w h (Nat.le_refl _) hc (by omega) (Nat.le_refl _) _ rfl
    have Hc := Lib.hid hcall
    have Hk := Lib.hid hk
    have He := Lib.hid hc
    have Hn := Lib.hid hn
    have hp := txE_parts hc
    have hts := txt_size l base k hp.1
    have Hd := Lib.hid hd
    unfold btwL at Hd
    rw [← hn] at Hd
    clear hcall h h' hk hp hc hd hn
    go_enter Try.func35, Try.ntmps35
    go_wp2_with fail
    refine Hc.out.mono ?_
    rintro e w1 ⟨A1, n1, c1, rfl, hr1, hb1⟩
    have Hr1 := Lib.hid hr1
    have H1 := Lib.hid (H.out.step hb1)
    have H1' := Lib.hid (H'.out.step hb1)
    clear hr1 H H'
    go_wp2_with fail
    refine (rtext_good base l A n c _ k _ H1.out (Nat.le_refl _) He.out Hk.out).mono ?_
    rintro e w2 ⟨rfl, hb2⟩
    have hw2 := hb1.trans (hb2.mono hb1.size)
    have Hr2 := Lib.hid (Hr1.out.step hb2)
    have H2' := Lib.hid (H1'.out.step hb2)
    clear hb1 hb2 H1 H1' Hr1
    obtain ⟨S, hS⟩ : ∃ S, txt base l k = S := ⟨_, rfl⟩
    obtain ⟨D, hD⟩ : ∃ D, btw (allL (txt base l k).size) ((l.drop k).take (n - k)) = D := ⟨_, rfl⟩
    rw [hD] at Hr2 Hd
    rw [hS] at Hd hts ⊢
    clear hS hD
    go_wp2_with fail
    obtain ⟨f, hf⟩ : ∃ f, fitsE mine S.size = f := ⟨_, rfl⟩
    have hcf := fits_any mine A' n' c' _ S.size w2 H2'.out (Nat.le_refl _)
    rw [hf] at hcf
    refine hcf.mono ?_
    rintro e w3 ⟨rfl, hb3⟩
    have hw3 := hw2.trans (hb3.mono hw2.size)
    have Hr3 := Lib.hid (Hr2.out.step hb3)
    have H3' := Lib.hid (H2'.out.step hb3)
    clear hb3 Hr2 H2' hcf
    rcases Hd.out with hd | ⟨hd, hm⟩
    · have hfE : f = E := by rw [← hf]; exact hd
      subst hfE
      clear hf hd
      go_wp2_with fail
      (try simp only [Exit.inBlock, Exit.then]); refine bodyPost_ret (results_tmp4 rfl _ _ _) rfl ?_
      exact ⟨rfl, hw3⟩
    · have hf0 : f = 0 := by rw [← hf]; exact hd
      subst hf0
      have Hm := Lib.hid hm
      clear hf hd hm
      go_wp2_with fail
      refine (meet_rdm D mine A1 A' n1 n' c1 c' _ Hr3.out H3'.out E _ _ Hm.out rfl rfl).mono ?_
      rintro e w4 ⟨A4, n4, c4, A5, n5, c5, rfl, hr4, hr5, hb4⟩
      have hw4 := hw3.trans (hb4.mono hw3.size)
      clear hr4 hr5 hb4
      go_wp2_with fail
      (try simp only [Exit.inBlock, Exit.then]); refine bodyPost_ret (results_tmp4 rfl _ _ _) rfl ?_
      exact ⟨rfl, hw4⟩
theorem catch_good (base : ByteArray) (l : List Rv) (mine : List Pt) (A A' : Option Addr) (n c n' c' k : Nat) (w : World) (h : RdR w w.heap.size A n c l) (h' : RdP w w.heap.size A' n' c' mine) (he : CaOk base l k mine) (D X Y : List Pt)
    (hD : btwL base l k l.length = D) (hX : meetD D mine = X) (hY : meetC D mine = Y) :
    Calls Try.prog 35 #[.string base, .slice A n c, .int .i64 k, .slice A' n' c'] w fun e w' => ∃ A1 n1 c1 A2 n2 c2 A3 n3 c3, e = .returned (.tuple #[.slice A1 n1 c1, .slice A2 n2 c2, .slice A3 n3 c3, .int .i64 0]) ∧
      RdP w' w'.heap.size A1 n1 c1 D ∧ RdP w' w'.heap.size A2 n2 c2 X ∧ RdP w' w'.heap.size A3 n3 c3 Y ∧ Below w.heap.size w w' := by
  obtain ⟨hk, hc, hd, hm⟩ := he
  have hn : n = l.length := h.1
  have H := Lib.hid h
  have H' := Lib.hid h'
  have hcall := between_good base l A n c _ k n w h (Nat.le_refl _) hc (by omega) (Nat.le_refl _) D (by rw [← hD, hn]; rfl)
  have Hc := Lib.hid hcall
  have Hk := Lib.hid hk
  have He := Lib.hid hc
  rw [hD] at hm
  have Hm := Lib.hid hm
  have hp := txE_parts hc
  have hts := txt_size l base k hp.1
  have Hd := Lib.hid hd
  have HX := Lib.hid hX
  have HY := Lib.hid hY
  clear hcall h h' hk hp hc hd hm hX hY hD hn
  go_enter Try.func35, Try.ntmps35
  go_wp2_with fail
  refine Hc.out.mono ?_
  rintro e w1 ⟨A1, n1, c1, rfl, hr1, hb1⟩
  have Hr1 := Lib.hid hr1
  have H1 := Lib.hid (H.out.step hb1)
  have H1' := Lib.hid (H'.out.step hb1)
  clear hr1 H H'
  go_wp2_with fail
  refine (rtext_good base l A n c _ k _ H1.out (Nat.le_refl _) He.out Hk.out).mono ?_
  rintro e w2 ⟨rfl, hb2⟩
  have hw2 := hb1.trans (hb2.mono hb1.size)
  have Hr2 := Lib.hid (Hr1.out.step hb2)
  have H2' := Lib.hid (H1'.out.step hb2)
  clear hb1 hb2 H1 H1' Hr1
  obtain ⟨S, hS⟩ : ∃ S, txt base l k = S := ⟨_, rfl⟩
  rw [hS] at Hd hts ⊢
  clear hS
  go_wp2_with fail
  have hcf := fits_any mine A' n' c' _ S.size w2 H2'.out (Nat.le_refl _)
  rw [show fitsE mine (S.size : Nat) = 0 from Hd.out] at hcf
  refine hcf.mono ?_
  rintro e w3 ⟨rfl, hb3⟩
  have hw3 := hw2.trans (hb3.mono hw2.size)
  have Hr3 := Lib.hid (Hr2.out.step hb3)
  have H3' := Lib.hid (H2'.out.step hb3)
  clear hb3 Hr2 H2' hcf
  go_wp2_with fail
  refine (meet_rdm D mine A1 A' n1 n' c1 c' _ Hr3.out H3'.out 0 _ _ Hm.out HY.out HX.out).mono ?_
  rintro e w4 ⟨A4, n4, c4, A5, n5, c5, rfl, hr4, hr5, hb4⟩
  have hw4 := hw3.trans (hb4.mono hw3.size)
  have Hr4 := Lib.hid (Hr3.out.step hb4)
  have Hy := Lib.hid hr4
  have Hx := Lib.hid hr5
  clear hr4 hr5 hb4 Hr3
  go_wp2_with fail
  (try simp only [Exit.inBlock, Exit.then]); refine bodyPost_ret (results_tmp4 rfl _ _ _) rfl ?_
  exact ⟨_, _, _, _, _, _, _, _, _, rfl, Hr4.out, Hx.out, Hy.out, hw4⟩
end Go.Proofs.Ytcdielgpmnhmjaa
namespace Go.Proofs.Ytcdielgpmnhmjaa
set_option linter.unusedVariables false
set_option linter.unusedSimpArgs false

theorem meet_do {a b : List Pt} {s : ByteArray} (h : meetE a b = 0) (h1 : doE a s = 0) (h2 : doE b s = 0) : doE (meetD a b) (doS a s) = 0 ∧ doE (meetC a b) (doS b s) = 0 ∧ doS (meetD a b) (doS a s) = doS (meetC a b) (doS b s) := by
  have hg := meet_good h
  have hz := meet_sizes h
  have e1 : doE (meetD a b) (doS a s) = 0 := do_zero hg.2 (by rw [do_size h1, hz.2.1])
  have e2 : doE (meetC a b) (doS b s) = 0 := do_zero hg.1 (by rw [do_size h2, hz.1])
  refine ⟨e1, e2, ?_⟩
  rw [← (comp_do h1 e1).2.2, ← (comp_do h2 e2).2.2, (meet_comp h).2.2]
end Go.Proofs.Ytcdielgpmnhmjaa
namespace Go.Proofs.Ytcdielgpmnhmjaa
set_option linter.unusedVariables false
set_option linter.unusedSimpArgs false

/-- nothing is cut -/
def NC (us : List U) : Prop := ∀ u ∈ us, u ≠ some none
def PU (us : List U) : Prop := ∀ u ∈ us, ∃ b, u = some (some b)
theorem NC.cons {u : U} {us : List U} (h : NC (u :: us)) : u ≠ some none ∧ NC us := ⟨h u (by simp), fun v hv => h v (by simp [hv])⟩
theorem NC.app {a b : List U} (h : NC (a ++ b)) : NC a ∧ NC b := ⟨fun v hv => h v (by simp [hv]), fun v hv => h v (by simp [hv])⟩
theorem cz_nc : ∀ us : List U, NC us → cz us = us
  | [], _ => rfl
  | none :: us, h => by simp only [cz]; rw [cz_nc us h.cons.2]
  | some none :: us, h => absurd rfl h.cons.1
  | some (some b) :: us, h => by simp only [cz]; rw [cz_nc us h.cons.2]
theorem lead_rst : ∀ us : List U, us = lead us ++ rst us
  | [] => rfl
  | none :: us => rfl
  | some none :: us => rfl
  | some (some b) :: us => by simp only [lead, rst, List.cons_append]; rw [← lead_rst us]
theorem lead_pu_ : ∀ us : List U, PU (lead us)
  | [] => by simp [lead, PU]
  | none :: us => by simp [lead, PU]
  | some none :: us => by simp [lead, PU]
  | some (some b) :: us => by
    intro u hu
    simp only [lead, List.mem_cons] at hu
    rcases hu with rfl | hu
    · exact ⟨b, rfl⟩
    · exact lead_pu_ us u hu
theorem rst_np : ∀ us : List U, ∀ c r, rst us ≠ some (some c) :: r
  | [], c, r, h => by simp [rst] at h
  | none :: us, c, r, h => by simp [rst] at h
  | some none :: us, c, r, h => by simp [rst] at h
  | some (some b) :: us, c, r, h => rst_np us c r h
theorem PU.form : ∀ {L : List U}, PU L → ∃ l : List UInt8, L = l.map (fun b => some (some b))
  | [], _ => ⟨[], rfl⟩
  | u :: L, h => by
    obtain ⟨b, rfl⟩ := h u (by simp)
    obtain ⟨l, hl⟩ := PU.form (L := L) fun v hv => h v (by simp [hv])
    exact ⟨b :: l, by rw [hl]; rfl⟩
def kl (L : List U) : List U := List.replicate L.length none
theorem mt_xl {L : List U} (h : PU L) (xs ys : List U) : mt (L ++ xs) ys = (L ++ (mt xs ys).1, kl L ++ (mt xs ys).2) := by
  obtain ⟨l, rfl⟩ := h.form
  rw [mt_xputs]
  simp [kl]
theorem mt_yl {L : List U} (h : PU L) (xs ys : List U) (hx : ∀ c r, xs ≠ some (some c) :: r) : mt xs (L ++ ys) = (kl L ++ (mt xs ys).1, L ++ (mt xs ys).2) := by
  obtain ⟨l, rfl⟩ := h.form
  rw [mt_yputs _ _ _ hx]
  simp [kl]
theorem cmp_l {L : List U} (h : PU L) (xs ys : List U) (hx : ∀ r, xs ≠ some none :: r) : cmp xs (L ++ ys) = L ++ cmp xs ys := by
  obtain ⟨l, rfl⟩ := h.form
  exact cmp_puts _ _ _ hx
theorem nI_l {L : List U} (h : PU L) : nI L = 0 := by
  obtain ⟨l, rfl⟩ := h.form
  induction l with
  | nil => rfl
  | cons x l ih => simpa [nI] using ih fun u hu => h u (by simp only [List.map_cons, List.mem_cons]; exact .inr hu)
theorem ap_l {α : Type} (f : UInt8 → α) {L : List U} (h : PU L) (us : List U) (r : List α) : ap f (L ++ us) r = ap f L [] ++ ap f us r := by
  have := ap_append f L us [] r (by rw [nI_l h]; rfl)
  simpa using this
theorem cz_l {L : List U} (h : PU L) (us : List U) : cz (L ++ us) = L ++ cz us := by
  obtain ⟨l, rfl⟩ := h.form
  exact cz_puts l 0 us
theorem cz_k (n : Nat) (us : List U) : cz (List.replicate n none ++ us) = List.replicate n none ++ cz us := by
  induction n with
  | zero => rfl
  | succ n ih => rw [List.replicate_succ]; simp only [List.cons_append, cz]; rw [ih]
theorem cz_cmp_lead {L m n : List U} (h : PU L) (hn : nO m = nI n) : cz (cmp m (L ++ n)) = cz (L ++ cmp m n) := by
  have h1 : nO m = nI (L ++ n) := by rw [nI_append, nI_l h]; omega
  refine cz_of_ap (by rw [nI_cmp _ _ h1, nI_append, nI_l h, nI_cmp _ _ hn]; omega) fun s hs => ?_
  rw [nI_cmp _ _ h1] at hs
  rw [ap_cmp _ _ _ h1 s (by omega), ap_l _ h, ap_l _ h, ap_cmp _ _ _ hn s (by omega)]
/-- a right form that does not begin with what is put -/
theorem form_np : ∀ (a : List U), Cn a → (∀ c r, a ≠ some (some c) :: r) → ∃ n rest, a = List.replicate n (some none) ++ rest ∧ (rest = [] ∨ ∃ a', rest = none :: a')
  | [], _, _ => ⟨0, [], rfl, .inl rfl⟩
  | none :: a, _, _ => ⟨0, none :: a, rfl, .inr ⟨a, rfl⟩⟩
  | some (some b) :: a, _, h => absurd rfl (h b a)
  | some none :: a, hc, _ => by
    obtain ⟨n, rest, e, hr⟩ := form_np a (cn_tail hc) (by
      rintro c r rfl
      exact hc.elim)
    exact ⟨n + 1, rest, by rw [e, List.replicate_succ]; rfl, hr⟩
theorem insC_cut (n : Nat) (Z : List U) (hz : ∀ c r, Z ≠ some (some c) :: r) : insC (List.replicate n (some none) ++ Z) = List.replicate (n + 1) (some none) ++ Z := by
  rcases n with _ | n
  · rcases Z with _ | ⟨_ | _ | x, Z⟩
    · rfl
    · rfl
    · rfl
    · exact absurd rfl (hz x Z)
  · rw [List.replicate_succ]; rfl
theorem cz_cuts_np (n : Nat) (Z : List U) (hz : ∀ c r, cz Z ≠ some (some c) :: r) : cz (List.replicate n (some none) ++ Z) = List.replicate n (some none) ++ cz Z := by
  induction n with
  | zero => rfl
  | succ n ih =>
    rw [List.replicate_succ, List.cons_append]; simp only [cz]
    rw [ih, insC_cut n _ hz, List.replicate_succ]
theorem nO_cut_free {b : List U} (h : NC b) (hb : ∀ c r, b ≠ some (some c) :: r) : b = [] ∨ ∃ b', b = none :: b' := by
  rcases b with _ | ⟨_ | _ | x, b⟩
  · exact .inl rfl
  · exact .inr ⟨b, rfl⟩
  · exact absurd rfl h.cons.1
  · exact absurd rfl (hb x b)
theorem cz_cmp_np {a b : List U} (ha : Cn a) (ha' : ∀ c r, a ≠ some (some c) :: r) (hb : NC b) (hn : nO a = nI b) : ∃ Y, cz (cmp a b) = lead b ++ Y ∧ ∀ c r, Y ≠ some (some c) :: r := by
  have hl := lead_pu_ b
  have hr := rst_np b
  have e := lead_rst b
  have hnr : nO a = nI (rst b) := by rw [hn]; conv => lhs; rw [e]
                                     rw [nI_append, nI_l hl]; omega
  have hbr : NC (rst b) := by rw [e] at hb; exact hb.app.2
  obtain ⟨n, rest, rfl, hrest⟩ := form_np a ha ha'
  refine ⟨cz (cmp (List.replicate n (some none) ++ rest) (rst b)), ?_, ?_⟩
  · conv => lhs; rw [e]
    rw [cz_cmp_lead hl hnr, cz_l hl]
  · rw [cmp_cuts]
    rw [nO_append, nO_cuts] at hnr
    rcases hrest with rfl | ⟨a', rfl⟩
    · rcases nO_cut_free hbr hr with h | ⟨b', h⟩
      · rw [h, cz_cuts_np _ _ (by simp [cmp, lead, cz])]
        intro c r h2
        rcases n with _ | n
        · simp [cmp, lead, cz] at h2
        · rw [List.replicate_succ] at h2; simp at h2
      · rw [h] at hnr; simp [nO, nI] at hnr
    · rcases nO_cut_free hbr hr with h | ⟨b', h⟩
      · rw [h] at hnr; simp [nO, nI] at hnr
      · rw [h, cz_cuts_np _ _ (by simp [cmp, lead, rst, cz])]
        intro c r h2
        rcases n with _ | n
        · simp [cmp, lead, rst, cz] at h2
        · rw [List.replicate_succ] at h2; simp at h2
theorem nc_split {c : List U} (h : NC c) (hn : 1 ≤ nI c) : ∃ c', c = lead c ++ none :: c' ∧ NC c' ∧ nI c = nI c' + 1 := by
  have e := lead_rst c
  have hr : NC (rst c) := by rw [e] at h; exact h.app.2
  have h0 := nI_l (lead_pu_ c)
  rcases nO_cut_free hr (rst_np c) with h1 | ⟨c', h1⟩
  · exfalso
    rw [h1, List.append_nil] at e
    rw [e] at hn
    omega
  · rw [h1] at e hr
    refine ⟨c', e, hr.cons.2, ?_⟩
    conv => lhs; rw [e]
    rw [nI_append, h0]
    simp [nI]
theorem nc_none {c : List U} (h : NC c) (hn : nI c = 0) : lead c = c ∧ PU c := by
  have e := lead_rst c
  have hr : NC (rst c) := by rw [e] at h; exact h.app.2
  rcases nO_cut_free hr (rst_np c) with h1 | ⟨c', h1⟩
  · rw [h1, List.append_nil] at e
    exact ⟨e.symm, by rw [e]; exact lead_pu_ c⟩
  · exfalso
    rw [e, nI_append, h1] at hn
    simp [nI] at hn
theorem NC.mt2 {a c : List U} (h : NC c) (hn : nI a = nI c) : NC (mt a c).2 := by
  refine mt_ind (M := fun a c => NC c → NC (mt a c).2) (fun _ => by simp [mt, lead, NC]) ?_ ?_ ?_ ?_ ?_ ?_ _ a c (Nat.le_refl _) hn h
  · intro b xs ys _ ih h u hu
    simp only [mt, List.mem_cons] at hu
    rcases hu with rfl | hu
    · simp
    · exact ih h u hu
  · intro xs b ys hx _ ih h u hu
    rw [mt_put _ _ _ hx] at hu
    simp only [List.mem_cons] at hu
    rcases hu with rfl | hu
    · simp
    · exact ih h.cons.2 u hu
  · intro xs ys _ ih h u hu
    simp only [mt, lead, rst, List.nil_append, List.mem_cons] at hu
    rcases hu with rfl | hu
    · simp
    · exact ih h.cons.2 u hu
  · intro xs ys _ ih h; exact absurd rfl h.cons.1
  · intro xs ys _ ih h u hu
    simp only [mt, lead, rst, List.nil_append] at hu
    exact ih h.cons.2 u hu
  · intro xs ys _ ih h; exact absurd rfl h.cons.1
theorem map_none (c : List U) : c.map (fun _ => (none : U)) = List.replicate c.length none := by
  induction c with
  | nil => rfl
  | cons x c ih => rw [List.map_cons, ih, List.length_cons, List.replicate_succ]
/-- one as two, and one that meets both -/
theorem joins_units : ∀ (a b c : List U), Cn a → NC b → NC c → nI a = nI c → nO a = nI b →
    cz (mt (cz (cmp a b)) c).1 = cz (cmp (mt a c).1 (mt b (mt a c).2).1) ∧ (mt (cz (cmp a b)) c).2 = (mt b (mt a c).2).2
  | [], b, c, _, hb, hc, hn, ho => by
    obtain ⟨e1, p1⟩ := nc_none hb (by rw [← ho]; rfl)
    obtain ⟨e2, p2⟩ := nc_none hc (by rw [← hn]; rfl)
    have h0 : cmp [] b = b := by show lead b = b; exact e1
    have h1 : mt [] c = (kl c, c) := by
      show ((lead c).map (fun _ => none), lead c) = _
      rw [e2, map_none]; rfl
    rw [h0, cz_nc b hb, h1]
    have hm := mt_xl p1 [] c
    rw [List.append_nil, h1] at hm
    rw [hm]
    refine ⟨?_, rfl⟩
    have h2 := cmp_l p1 (kl c) (kl c) (by
      intro r
      unfold kl
      cases c.length <;> simp [List.replicate_succ])
    rw [h2]
    have h3 := cmp_kk c.length [] []
    rw [List.append_nil, show cmp [] ([] : List U) = [] from rfl, List.append_nil] at h3
    unfold kl
    rw [h3]
  | none :: a, b, c, ha, hb, hc, hn, ho => by
    obtain ⟨c', ec, hc', nc⟩ := nc_split hc (by rw [← hn]; simp [nI])
    obtain ⟨b', eb, hb', nb⟩ := nc_split hb (by rw [← ho]; simp [nO])
    have hlb := lead_pu_ b
    have hlc := lead_pu_ c
    generalize lead b = L at *
    generalize lead c = C at *
    subst ec eb
    obtain ⟨i1, i2⟩ := joins_units a b' c' ha hb' hc' (by simp only [nI] at hn; omega) (by simp only [nO] at ho; omega)
    have e1 : cz (cmp (none :: a) (L ++ none :: b')) = L ++ none :: cz (cmp a b') := by
      rw [cmp_l hlb _ _ (by simp), cz_l hlb]; rfl
    have e2 : ∀ xs ys, mt (none :: xs) (C ++ none :: ys) = (kl C ++ none :: (mt xs ys).1, C ++ none :: (mt xs ys).2) := fun xs ys => by rw [mt_yl hlc _ _ (by simp)]; rfl
    rw [e1, mt_xl hlb, e2, e2]
    simp only
    rw [mt_xl hlb, e2]
    simp only
    refine ⟨?_, by rw [i2]⟩
    rw [cmp_l hlb _ _ (by unfold kl; intro r; cases C.length <;> simp [List.replicate_succ]), cz_l hlb, cz_l hlb]
    congr 1
    have h3 := cmp_kk C.length (none :: (mt a c').1) (none :: (mt b' (mt a c').2).1)
    unfold kl
    rw [h3, cz_k, cz_k]
    congr 1
    show none :: cz (mt (cz (cmp a b')) c').1 = none :: cz (cmp (mt a c').1 (mt b' (mt a c').2).1)
    rw [i1]
  | some (some y) :: a, b, c, ha, hb, hc, hn, ho => by
    obtain ⟨b', eb, hb', nb⟩ := nc_split hb (by rw [← ho]; simp [nO])
    have hlb := lead_pu_ b
    generalize lead b = L at *
    subst eb
    obtain ⟨i1, i2⟩ := joins_units a b' c (cn_tail ha) hb' hc (by simpa [nI] using hn) (by simp only [nO] at ho; omega)
    have e1 : cz (cmp (some (some y) :: a) (L ++ none :: b')) = L ++ some (some y) :: cz (cmp a b') := by
      rw [cmp_l hlb _ _ (by simp), cz_l hlb]; rfl
    have e3 : mt (some (some y) :: cz (cmp a b')) c = (some (some y) :: (mt (cz (cmp a b')) c).1, none :: (mt (cz (cmp a b')) c).2) := rfl
    have e4 : mt (some (some y) :: a) c = (some (some y) :: (mt a c).1, none :: (mt a c).2) := rfl
    have e5 : mt (none :: b') (none :: (mt a c).2) = (none :: (mt b' (mt a c).2).1, none :: (mt b' (mt a c).2).2) := rfl
    rw [e1, mt_xl hlb, e3, e4]
    simp only
    rw [mt_xl hlb, e5]
    simp only
    refine ⟨?_, by rw [i2]⟩
    rw [cmp_l hlb _ _ (by simp), cz_l hlb, cz_l hlb]
    congr 1
    show some (some y) :: cz (mt (cz (cmp a b')) c).1 = some (some y) :: cz (cmp (mt a c).1 (mt b' (mt a c).2).1)
    rw [i1]
  | some none :: a, b, c, ha, hb, hc, hn, ho => by
    have ha' : ∀ x r, a ≠ some (some x) :: r := by
      rintro x r rfl
      exact ha.elim
    obtain ⟨c', ec, hc', nc⟩ := nc_split hc (by rw [← hn]; simp [nI])
    have hlc := lead_pu_ c
    obtain ⟨Y, eY, hY⟩ := cz_cmp_np (cn_tail ha) ha' hb (by simpa [nO] using ho)
    have hlb := lead_pu_ b
    have hrb := rst_np b
    have eb := lead_rst b
    generalize lead b = L at *
    generalize rst b = b0 at *
    generalize lead c = C at *
    subst ec eb
    have hncc : NC (C ++ c') := fun u hu => hc u (by simp only [List.mem_append, List.mem_cons] at hu ⊢; rcases hu with h | h; exact .inl h; exact .inr (.inr h))
    have hnc' : nI a = nI c' := by simp only [nI] at hn; omega
    obtain ⟨i1, i2⟩ := joins_units a (L ++ b0) (C ++ c') (cn_tail ha) hb hncc (by rw [nI_append, nI_l hlc]; omega) (by simpa [nO] using ho)
    have q1 : mt a (C ++ c') = (kl C ++ (mt a c').1, C ++ (mt a c').2) := mt_yl hlc _ _ ha'
    have q2 : mt Y (C ++ c') = (kl C ++ (mt Y c').1, C ++ (mt Y c').2) := mt_yl hlc _ _ hY
    have q3 : ∀ xs, mt (some none :: xs) (C ++ none :: c') = (kl C ++ some none :: (mt xs c').1, C ++ (mt xs c').2) := fun xs => by rw [mt_yl hlc _ _ (by simp)]; rfl
    have q4 : mt b0 (C ++ (mt a c').2) = (kl C ++ (mt b0 (mt a c').2).1, C ++ (mt b0 (mt a c').2).2) := mt_yl hlc _ _ hrb
    rw [eY, mt_xl hlb, q2, q1] at i1 i2
    simp only at i1 i2
    rw [mt_xl hlb, q4] at i1 i2
    simp only at i1 i2
    have e1 : cz (cmp (some none :: a) (L ++ b0)) = L ++ some none :: Y := by
      show insC (cz (cmp a (L ++ b0))) = _
      rw [eY]
      obtain ⟨l, rfl⟩ := hlb.form
      clear i1 i2 eY hb ho hlb
      induction l with
      | nil =>
        rcases Y with _ | ⟨_ | _ | x, Y⟩
        · rfl
        · rfl
        · rfl
        · exact absurd rfl (hY x Y)
      | cons x l ih => simp only [List.map_cons, List.cons_append, insC]; rw [ih]
    rw [e1, mt_xl hlb, q3, q3]
    simp only
    rw [mt_xl hlb, q4]
    simp only
    refine ⟨?_, i2⟩
    have hm1 := nI_mt a c' hnc'
    have hob : nO a = nI b0 := by
      have : nO a = nI (L ++ b0) := by simpa [nO] using ho
      rw [nI_append, nI_l hlb] at this
      omega
    have hbm : nI b0 = nI (mt a c').2 := by omega
    have hm2 := nI_mt b0 (mt a c').2 hbm
    have ho2 : nO (mt a c').1 = nO (mt a c').2 := (nO_mt a c' hnc').1
    have hno : nO (kl C ++ (mt a c').1) = nI (kl C ++ (mt b0 (mt a c').2).1) := by
      unfold kl
      rw [nO_append, nI_append, nO_keeps, nI_keeps]; omega
    have hno2 : nO (kl C ++ some none :: (mt a c').1) = nI (kl C ++ (mt b0 (mt a c').2).1) := by
      unfold kl
      rw [nO_append, nI_append, nO_keeps, nI_keeps]; simp only [nO]; omega
    rw [cz_cmp_lead hlb hno, cz_l hlb, cz_l hlb] at i1
    rw [cz_cmp_lead hlb hno2, cz_l hlb, cz_l hlb]
    have i3 := List.append_cancel_left i1
    unfold kl at i3 ⊢
    rw [cmp_kk, cz_k, cz_k] at i3
    rw [cmp_kk, cz_k, cz_k]
    have i4 := List.append_cancel_left i3
    congr 2
    show insC (cz (mt Y c').1) = insC (cz (cmp (mt a c').1 (mt b0 (mt a c').2).1))
    rw [i4]
def hasCut (l : List Pt) : Bool := l.any (fun p => p.1 == 3)
theorem nc_of {l : List Pt} (h : hasCut l = false) (hf : Fine l) : NC (units l) := by
  intro u hu
  unfold units at hu
  obtain ⟨p, hp, hu⟩ := List.mem_flatMap.1 hu
  have h1 : p.1 ≠ 3 := by
    have := List.any_eq_false.1 h p hp
    simpa using this
  obtain ⟨k, n, t⟩ := p
  rcases hf _ hp with ⟨h2 | h2, _, _⟩ | ⟨h2, _, _⟩
  · simp only at h2; subst h2
    simp only [up, if_true, List.mem_replicate] at hu
    rw [hu.2]; simp
  · exact absurd h2 h1
  · simp only at h2; subst h2
    rw [show up ((2, n, t) : Pt) = t.data.toList.map (fun b => some (some b)) from rfl] at hu
    obtain ⟨x, _, rfl⟩ := List.mem_map.1 hu
    simp
theorem cmp_cz_cz {u v : List U} (h : nO u = nI v) : cz (cmp (cz u) (cz v)) = cz (cmp u v) := by
  have h1 : nO (cz u) = nI (cz v) := by rw [nO_cz, nI_cz, h]
  refine cz_of_ap (by rw [nI_cmp _ _ h1, nI_cmp _ _ h, nI_cz]) fun s hs => ?_
  rw [nI_cmp _ _ h1, nI_cz] at hs
  rw [ap_cmp _ _ _ h1 s (by rw [nI_cz]; omega), ap_cmp _ _ _ h s (by omega), ap_cz _ _ s (by omega), ap_cz]
  rw [ap_length _ _ _ (by omega)]; omega
theorem meet_joins {a b c : List Pt} (h0 : compE a b = 0) (hb : hasCut b = false) (hc : hasCut c = false) (h1 : meetE (compL a b) c = 0) (h2 : meetE a c = 0) (h3 : meetE b (meetD a c) = 0) :
    compE (meetC a c) (meetC b (meetD a c)) = 0 ∧ meetC (compL a b) c = compL (meetC a c) (meetC b (meetD a c)) ∧ meetD (compL a b) c = meetD b (meetD a c) := by
  have c0 := comp_chk h0
  have m1 := meet_chk h1
  have m2 := meet_chk h2
  have m3 := meet_chk h3
  have z2 := meet_sizes h2
  have z3 := meet_sizes h3
  have u2 := meet_units h2
  have u3 := meet_units h3
  have hcn := cn_good c0.1
  have nb := nc_of hb (chk_parts c0.2.1).2.2.1
  have nc := nc_of hc (chk_parts m2.2.1).2.2.1
  have hc1 : units (meetD a c) = (mt (units a) (units c)).2 := by rw [u2.2]; exact cz_nc _ (nc.mt2 m2.2.2.1)
  have e := comp_zero (meet_good h2).1 (meet_good h3).1 (by rw [z3.1, z2.2.2.1])
  have hj := joins_units (units a) (units b) (units c) hcn nb nc m2.2.2.1 c0.2.2.1
  have hn1 := nI_mt (units a) (units c) m2.2.2.1
  have hn2 := nO_mt (units a) (units c) m2.2.2.1
  have hbc : nI (units b) = nI (mt (units a) (units c)).2 := by rw [← hc1]; exact m3.2.2.1
  have hn3 := nI_mt (units b) (mt (units a) (units c)).2 hbc
  refine ⟨e, ?_, ?_⟩
  · rw [m1.2.2.2.2.2.1, meet1, comp_units h0, hj.1, (comp_chk e).2.2.2.1, u2.1, u3.1, hc1, cmp_cz_cz (by omega)]
  · rw [m1.2.2.2.2.2.2, meet2, comp_units h0, hj.2, m3.2.2.2.2.2.2, meet2, hc1]
end Go.Proofs.Ytcdielgpmnhmjaa
namespace Go.Proofs.Ytcdielgpmnhmjaa
set_option linter.unusedVariables false
set_option linter.unusedSimpArgs false

theorem nO_mt_nc (a c : List U) (h : nI a = nI c) : NC c → nO (mt a c).1 = nO a + nP c := by
  refine mt_ind (M := fun a c => NC c → nO (mt a c).1 = nO a + nP c) (fun _ => rfl) ?_ ?_ ?_ ?_ ?_ ?_ _ a c (Nat.le_refl _) h
  · intro b xs ys h ih hc; have := ih hc; simp only [mt, nO] at this ⊢; omega
  · intro xs b ys hx h ih hc; have := ih hc.cons.2; rw [mt_put _ _ _ hx]; simp only [nO, nP] at this ⊢; omega
  · intro xs ys h ih hc; have := ih hc.cons.2; simp only [mt, nO, nP, lead, rst, List.map_nil, List.nil_append] at this ⊢; omega
  · intro xs ys h ih hc; exact absurd rfl hc.cons.1
  · intro xs ys h ih hc; have := ih hc.cons.2; simp only [mt, nO, nP, lead, rst, List.map_nil, List.nil_append] at this ⊢; omega
  · intro xs ys h ih hc; exact absurd rfl hc.cons.1
theorem nc_le : ∀ us : List U, NC us → nI us ≤ nO us
  | [], _ => Nat.le_refl _
  | none :: us, h => by have := nc_le us h.cons.2; simp only [nI, nO]; omega
  | some none :: us, h => absurd rfl h.cons.1
  | some (some b) :: us, h => by have := nc_le us h.cons.2; simp only [nI, nO]; omega
theorem nc_chk {l : List Pt} (h : hasCut l = false) (hk : chk l = 0) : NC (units l) := nc_of h (chk_parts hk).2.2.1
/-- nothing is too large, if the sum is not -/
theorem meet_nc {a c : List Pt} (ha : chk a = 0) (hk : chk c = 0) (hn : nI (units a) = nI (units c)) (hc : NC (units c)) (ho : nO (units a) + nP (units c) ≤ 500) : meetE a c = 0 :=
  meet_zero ha hk hn (by rw [nO_mt_nc _ _ hn hc]; exact ho)
theorem meet_nc_le {a c : List Pt} (h : meetE a c = 0) (hc : NC (units c)) : nO (units a) + nP (units c) ≤ 500 := by
  have hn := (meet_chk h).2.2.1
  have h1 := (chk_parts (meet_good h).1).2.2.2.2.1
  rw [(meet_units h).1, nO_cz, nO_mt_nc _ _ hn hc] at h1
  exact h1
theorem txr_le : ∀ (l : List Rv) (s : ByteArray), txr s l = 0 → (∀ x ∈ l, hasCut x.2.2 = false) → s.size ≤ (txt s l l.length).size
  | [], s, _, _ => by simp [txt]
  | r :: l, s, h, hc => by
    simp only [txr] at h
    split at h
    · omega
    · split at h
      · omega
      · rename_i h1 h2
        have h2' : doE r.2.2 s = 0 := by omega
        have := txr_le l (doS r.2.2 s) h fun x hx => hc x (by simp [hx])
        have hk := do_chk h2'
        have h3 := nc_le _ (nc_chk (hc r (by simp)) hk.1)
        have h4 := do_size h2'
        simp only [txt, List.length_cons]
        omega
theorem each_step {mine : List Pt} {S : ByteArray} (hm : hasCut mine = false) : ∀ (rest : List Rv) (o : List Pt), doE o S = 0 → txr (doS o S) rest = 0 → (∀ x ∈ rest, hasCut x.2.2 = false) → meetE o mine = 0 → meetE (btw o rest) mine = 0 →
    mtE (meetD o mine) rest = 0 ∧ mtL (meetD o mine) rest = meetD (btw o rest) mine
  | [], o, _, _, _, _, _ => ⟨rfl, rfl⟩
  | r :: l, o, h1, h2, h3, h4, h5 => by
    obtain ⟨c1, c2, c3⟩ := btw_step h1 h2
    have hk := meet_chk h4
    have hmn : NC (units mine) := nc_chk hm hk.2.1
    have hr : hasCut r.2.2 = false := h3 r (by simp)
    have h3' : ∀ x ∈ l, hasCut x.2.2 = false := fun x hx => h3 x (by simp [hx])
    have hb := btw_do l (compL o r.2.2) S c2 c3
    have hle := txr_le l (doS (compL o r.2.2) S) c3 h3'
    have hkb := do_chk hb.1
    have h5' : meetE (btw (compL o r.2.2) l) mine = 0 := h5
    have hsz := meet_nc_le h5' hmn
    have e1 : nO (units (btw (compL o r.2.2) l)) = (txt (doS (compL o r.2.2) S) l l.length).size := by rw [← hb.2]; exact (do_size hb.1).symm
    have e2 : nO (units (compL o r.2.2)) = (doS (compL o r.2.2) S).size := (do_size c2).symm
    have e3 := comp_sizes c1
    have kc := comp_chk c1
    have m1 : meetE (compL o r.2.2) mine = 0 := meet_nc kc.2.2.2.2 hk.2.1 (by rw [e3.1]; exact hk.2.2.1) hmn (by omega)
    have hg := meet_good h4
    have hs := meet_sizes h4
    have hdn : NC (units (meetD o mine)) := by
      have h7 := NC.mt2 (a := units o) hmn hk.2.2.1
      rw [(meet_units h4).2, cz_nc _ h7]
      exact h7
    have m3 : meetE r.2.2 (meetD o mine) = 0 := meet_nc kc.2.1 hg.2 (by rw [hs.2.1, kc.2.2.1]) hdn (by rw [hs.2.2.2.2, ← e3.2]; omega)
    have hj := meet_joins c1 hr hm m1 h4 m3
    have ih := each_step hm l (compL o r.2.2) c2 c3 h3' m1 h5'
    simp only [mtE, mtL, btw]
    rw [if_neg (by omega), ← hj.2.2]
    exact ih
theorem catch_each {mine : List Pt} {S : ByteArray} (hm : hasCut mine = false) (rest : List Rv) (h1 : txr S rest = 0) (hS : S.size ≤ 500) (h2 : ∀ x ∈ rest.tail, hasCut x.2.2 = false) (h3 : doE mine S = 0) (h4 : meetE (btw (allL S.size) rest) mine = 0) :
    mtE mine rest = 0 ∧ mtL mine rest = meetD (btw (allL S.size) rest) mine := by
  have hd := do_chk h3
  have hal := meet_all_left hd.1
  rw [hd.2.1] at hal
  have hda := do_all hS
  cases rest with
  | nil => exact ⟨rfl, hal.2.2.symm⟩
  | cons r l =>
    obtain ⟨c1, c2, c3⟩ := btw_step hda.1 (show txr (doS (allL S.size) S) (r :: l) = 0 by rw [hda.2]; exact h1)
    have h2' : ∀ x ∈ l, hasCut x.2.2 = false := h2
    have kc := comp_chk c1
    have hr : compL (allL S.size) r.2.2 = r.2.2 := by
      have := (all_left kc.2.1).2
      have hn : nI (units r.2.2) = S.size := by rw [← kc.2.2.1, ← do_size hda.1, hda.2]
      rw [hn] at this
      exact this
    rw [hr] at c2 c3
    have hmn : NC (units mine) := nc_chk hm hd.1
    have h4' : meetE (btw r.2.2 l) mine = 0 := by have h5 := h4; simp only [btw] at h5; rw [hr] at h5; exact h5
    have hb := btw_do l r.2.2 S c2 c3
    have hle := txr_le l (doS r.2.2 S) c3 h2'
    have hsz := meet_nc_le h4' hmn
    have e1 : nO (units (btw r.2.2 l)) = (txt (doS r.2.2 S) l l.length).size := by rw [← hb.2]; exact (do_size hb.1).symm
    have e2 := do_size c2
    have hk := do_chk c2
    have m1 : meetE r.2.2 mine = 0 := meet_nc hk.1 hd.1 (by rw [hk.2.1, hd.2.1]) hmn (by omega)
    have ih := each_step hm l r.2.2 c2 c3 h2' m1 h4'
    simp only [mtE, mtL, btw]
    rw [if_neg (by omega), hr]
    exact ih
end Go.Proofs.Ytcdielgpmnhmjaa
namespace Go.Proofs.Ytcdielgpmnhmjaa
open Go.ChangeShapes Go.WideShapes Go.RowKit
set_option linter.unusedVariables false
set_option linter.unusedSimpArgs false
set_option maxRecDepth 100000
set_option maxHeartbeats 4000000

theorem cut1_any (k m : Int) (t : ByteArray) (r : Bool) (hr : (k == 3) = r) (w : World) :
    Calls Try.prog 80 #[.agg #[.int .i64 k, .int .i64 m, .string t]] w fun e w' => e = .returned (.bool r) ∧ Below w.heap.size w w' := by
  subst hr
  go_enter Try.func80, Try.ntmps80
  go_wp2_with fail
  go_ret
  exact ⟨rfl, (Below.refl _ _).alloc (Nat.le_refl _) _⟩
def cutV : Value := .func (.func 80) #[] #[]
theorem hasCut_take (l : List Pt) (k : Nat) (h : k < l.length) : hasCut (l.take (k + 1)) = (hasCut (l.take k) || (l[k].1 == 3)) := by
  unfold hasCut
  rw [List.take_succ_eq_append_getElem h, List.any_append]
  simp only [List.any_cons, List.any_nil, Bool.or_false]
theorem hasCut_of_at (l : List Pt) (k : Nat) (h : k < l.length) (hc : (l[k].1 == 3) = true) : hasCut l = true := by
  unfold hasCut
  rw [List.any_eq_true]
  exact ⟨l[k], List.getElem_mem h, hc⟩
theorem icut_any (l : List Pt) (A : Option Addr) (n c B : Nat) (w : World) (h : RdP w B A n c l) (hB : B ≤ w.heap.size) :
    Calls Try.prog 120 #[.slice A n c, cutV] w fun e w' => (∃ i : Int, e = .returned (.int .i64 i) ∧ decide (0 ≤ i) = hasCut l) ∧ Below w.heap.size w w' := by
  have hle := h.le
  have H := Lib.hid h
  clear h
  obtain ⟨R, hR⟩ : ∃ R, hasCut l = R := ⟨_, rfl⟩
  rw [hR]
  have HR := Lib.hid hR
  clear hR
  unfold cutV
  go_enter Try.func120, Try.ntmps120
  go_wp2_with fail
  go_loopw [5, 8] (fun x i wr => ∃ (k : Nat), k ≤ n ∧ i = .int .i64 k ∧ Hid (hasCut (l.take k) = false) ∧ Below w.heap.size w wr) (fun _ i _ => n - (intOf i).toNat)
  case atStart => exact ⟨0, by omega, rfl, Lib.hid (by simp [hasCut]), Below.refl _ _⟩
  case round =>
    obtain ⟨k, hk, rfl, hnc, hbw⟩ := hrel
    by_cases hlt : k < n
    · have hkl : k < l.length := by have := H.out.1; omega
      obtain ⟨g, o, rfl, hg, c0, c1, c2⟩ := (H.out.below (hbw.mono hB)).at_ k hlt
      have hts := Lib.hid (hasCut_take l k hkl)
      have hof := Lib.hid (hasCut_of_at l k hkl)
      obtain ⟨p, hp⟩ : ∃ p, p = l[k] := ⟨_, rfl⟩
      rw [← hp] at hts hof c0 c1 c2
      clear hp
      obtain ⟨kd, m, t⟩ := p
      simp only at c0 c1 c2
      have hk0 : (0 : Int) ≤ (k : Int) := by omega
      have hkn : (k : Int) < (n : Int) := by omega
      obtain ⟨r, hr⟩ : ∃ r, (kd == 3) = r := ⟨_, rfl⟩
      have Hr := Lib.hid hr
      clear hr
      go_wp2_with fail
      refine (cut1_any kd m t r Hr.out _).mono ?_
      rintro e w2 ⟨rfl, hb2⟩
      have hw2 := hbw.trans (hb2.mono hbw.size)
      clear hb2
      cases r with
      | false =>
        go_wp2_with fail
        go_roundw
        case rel => exact ⟨k + 1, by omega, by go_num, Lib.hid (by rw [hts.out, hnc.out]; simpa using Hr.out), hw2⟩
        case measure => simp [intOf]; omega
      | true =>
        have hRt : R = true := by rw [← HR.out]; exact hof.out Hr.out
        subst hRt
        go_wp2_with fail
        go_ret
        exact ⟨⟨(k : Int), rfl, by simp⟩, hw2⟩
    · have hRf : R = false := by
        rw [← HR.out]
        have := hnc.out
        rwa [List.take_of_length_le (by have := H.out.1; omega)] at this
      subst hRf
      go_wp2_with fail
      go_ret
      exact ⟨⟨-1, rfl, by decide⟩, hbw⟩
theorem cuts_any (l : List Pt) (A : Option Addr) (n c B : Nat) (w : World) (h : RdP w B A n c l) (hB : B ≤ w.heap.size) :
    Calls Try.prog 37 #[.slice A n c] w fun e w' => e = .returned (.bool (hasCut l)) ∧ Below w.heap.size w w' := by
  have hcf : Calls Try.prog 79 #[.slice A n c, cutV] w fun e w' => e = .returned (.bool (hasCut l)) ∧ Below w.heap.size w w' := by
    have hi := icut_any l A n c B w h hB
    generalize hasCut l = R at *
    have Hi := Lib.hid hi
    clear hi h
    unfold cutV at *
    go_enter Try.func79, Try.ntmps79
    go_wp2_with fail
    refine Hi.out.mono ?_
    rintro e w1 ⟨⟨i, rfl, hi⟩, hb⟩
    have Hh := Lib.hid hi
    clear hi
    go_wp2_with fail
    go_ret
    exact ⟨by rw [← Hh.out]; rfl, hb⟩
  generalize hasCut l = R at *
  have Hc := Lib.hid hcf
  clear hcf h
  unfold cutV at *
  go_enter Try.func37, Try.ntmps37
  go_wp2_with fail
  refine Hc.out.mono ?_
  rintro e w1 ⟨rfl, hb⟩
  go_wp2_with fail
  go_ret
  exact ⟨rfl, hb⟩
end Go.Proofs.Ytcdielgpmnhmjaa
namespace Go.Proofs.Ytcdielgpmnhmjaa
open Go.ChangeShapes Go.WideShapes Go.RowKit
set_option linter.unusedVariables false
set_option linter.unusedSimpArgs false
set_option maxRecDepth 100000
set_option maxHeartbeats 4000000

/-- the rest of a history's slice -/
theorem RdR.rest {w : World} {B n c : Nat} {A : Option Addr} {l : List Rv} (h : RdR w B A n c l) (k : Nat) (hk : k ≤ n) : RdR w B (if c = k then A else Option.map (fun x : Addr => x.add (k * 3)) A) (n - k) (c - k) (l.drop k) := by
  refine h.drop k hk _ fun hlt b o e => ?_
  have := h.caps
  rw [if_neg (by omega), e]
  simp only [Option.map_some, Addr.add]
  by_cases h0 : k * 3 = 0
  · simp [h0]
  · simp [h0]
theorem plain1_any (a b : Int) (d : List Pt) (A : Option Addr) (n c : Nat) (w : World) (h : RdP w w.heap.size A n c d) (r : Bool) (hr : hasCut d = r) :
    Calls Try.prog 78 #[.agg #[.int .i64 a, .int .i64 b, .slice A n c]] w fun e w' => e = .returned (.bool r) ∧ Below w.heap.size w w' := by
  have hc := cuts_any d A n c _ _ (h.stepA (.cells #[.int .i64 a, .int .i64 b, .slice A n c] 27)) (Nat.le_refl _)
  rw [hr] at hc
  have Hc := Lib.hid hc
  have hb0 := (Below.refl w.heap.size w).alloc (Nat.le_refl _) (.cells #[.int .i64 a, .int .i64 b, .slice A n c] 27)
  clear hc h hr
  go_enter Try.func78, Try.ntmps78
  go_wp2_with fail
  refine Hc.out.mono ?_
  rintro e w1 ⟨rfl, hb⟩
  have hw := hb0.trans (hb.mono hb0.size)
  go_wp2_with fail
  go_ret
  exact ⟨rfl, hw⟩
def plainV : Value := .func (.func 78) #[] #[]
def anyCut (l : List Rv) : Bool := l.any (fun x => hasCut x.2.2)
theorem anyCut_take (l : List Rv) (k : Nat) (h : k < l.length) : anyCut (l.take (k + 1)) = (anyCut (l.take k) || hasCut l[k].2.2) := by
  unfold anyCut
  rw [List.take_succ_eq_append_getElem h, List.any_append]
  simp only [List.any_cons, List.any_nil, Bool.or_false]
theorem anyCut_of_at (l : List Rv) (k : Nat) (h : k < l.length) (hc : hasCut l[k].2.2 = true) : anyCut l = true := by
  unfold anyCut
  rw [List.any_eq_true]
  exact ⟨l[k], List.getElem_mem h, hc⟩
theorem irev_any (l : List Rv) (A : Option Addr) (n c B : Nat) (w : World) (h : RdR w B A n c l) (hB : B ≤ w.heap.size) :
    Calls Try.prog 119 #[.slice A n c, plainV] w fun e w' => (∃ i : Int, e = .returned (.int .i64 i) ∧ decide (0 ≤ i) = anyCut l) ∧ Below w.heap.size w w' := by
  have hle := h.le
  have H := Lib.hid h
  clear h
  obtain ⟨R, hR⟩ : ∃ R, anyCut l = R := ⟨_, rfl⟩
  rw [hR]
  have HR := Lib.hid hR
  clear hR
  unfold plainV
  go_enter Try.func119, Try.ntmps119
  go_wp2_with fail
  go_loopw [5, 8] (fun x i wr => ∃ (k : Nat), k ≤ n ∧ i = .int .i64 k ∧ Hid (anyCut (l.take k) = false) ∧ Below w.heap.size w wr) (fun _ i _ => n - (intOf i).toNat)
  case atStart => exact ⟨0, by omega, rfl, Lib.hid (by simp [anyCut]), Below.refl _ _⟩
  case round =>
    obtain ⟨k, hk, rfl, hnc, hbw⟩ := hrel
    by_cases hlt : k < n
    · have hkl : k < l.length := by have := H.out.1; omega
      obtain ⟨g, o, A1, n1, c1, rfl, hg, d0, d1, d2, hrd⟩ := (H.out.below (hbw.mono hB)).at_ k hlt
      have hts := Lib.hid (anyCut_take l k hkl)
      have hof := Lib.hid (anyCut_of_at l k hkl)
      obtain ⟨p, hp⟩ : ∃ p, p = l[k] := ⟨_, rfl⟩
      rw [← hp] at hts hof d0 d1 hrd
      clear hp
      obtain ⟨ra, rb, d⟩ := p
      simp only at d0 d1 d2 hrd hts hof
      have hk0 : (0 : Int) ≤ (k : Int) := by omega
      have hkn : (k : Int) < (n : Int) := by omega
      obtain ⟨r, hr⟩ : ∃ r, hasCut d = r := ⟨_, rfl⟩
      have Hr := Lib.hid hr
      have Hrd := Lib.hid (hrd.more (show B ≤ wr.heap.size by have := hbw.size; omega))
      clear hr hrd
      go_wp2_with fail
      refine (plain1_any ra rb d A1 n1 c1 _ Hrd.out r Hr.out).mono ?_
      rintro e w2 ⟨rfl, hb2⟩
      have hw2 := hbw.trans (hb2.mono hbw.size)
      clear hb2
      cases r with
      | false =>
        go_wp2_with fail
        go_roundw
        case rel => exact ⟨k + 1, by omega, by go_num, Lib.hid (by rw [hts.out, hnc.out]; simpa using Hr.out), hw2⟩
        case measure => simp [intOf]; omega
      | true =>
        have hRt : R = true := by rw [← HR.out]; exact hof.out Hr.out
        subst hRt
        go_wp2_with fail
        go_ret
        exact ⟨⟨(k : Int), rfl, by simp⟩, hw2⟩
    · have hRf : R = false := by
        rw [← HR.out]
        have := hnc.out
        rwa [List.take_of_length_le (by have := H.out.1; omega)] at this
      subst hRf
      go_wp2_with fail
      go_ret
      exact ⟨⟨-1, rfl, by decide⟩, hbw⟩
theorem crev_any (l : List Rv) (A : Option Addr) (n c B : Nat) (w : World) (h : RdR w B A n c l) (hB : B ≤ w.heap.size) (R : Bool) (hR : anyCut l = R) :
    Calls Try.prog 77 #[.slice A n c, .func (.func 78) #[] #[]] w fun e w' => e = .returned (.bool R) ∧ Below w.heap.size w w' := by
  have hi := irev_any l A n c B w h hB
  rw [hR] at hi
  have Hi := Lib.hid hi
  clear hi h hR
  unfold plainV at *
  go_enter Try.func77, Try.ntmps77
  go_wp2_with fail
  refine Hi.out.mono ?_
  rintro e w1 ⟨⟨i, rfl, hi⟩, hb⟩
  have Hh := Lib.hid hi
  clear hi
  go_wp2_with fail
  go_ret
  exact ⟨by rw [← Hh.out]; rfl, hb⟩
theorem plain_any (l : List Rv) (A : Option Addr) (n c B : Nat) (w : World) (h : RdR w B A n c l) (hB : B ≤ w.heap.size) (R : Bool) (hR : anyCut l.tail = R) :
    Calls Try.prog 36 #[.slice A n c] w fun e w' => e = .returned (.bool (!R)) ∧ Below w.heap.size w w' := by
  have hcaps := h.caps
  by_cases h0 : n = 0
  · have hl : l = [] := List.eq_nil_of_length_eq_zero (by rw [← h.1]; exact h0)
    subst hl
    obtain rfl : R = false := hR.symm
    subst h0
    clear h hR
    go_enter Try.func36, Try.ntmps36
    go_wp2_with fail
    go_ret
    exact ⟨rfl, Below.refl _ _⟩
  · have hn1 : (1 : Int) ≤ (n : Int) := by omega
    have hnc : (n : Int) ≤ (c : Int) := by omega
    have hc1 : (1 : Int) ≤ (c : Int) := by omega
    have hn0 : ((n : Int) == 0) = false := by simp; omega
    have hr := h.rest 1 (by omega)
    have HR := Lib.hid (show anyCut (l.drop 1) = R by rw [List.drop_one]; exact hR)
    clear h hR h0
    by_cases hc : c = 1
    · subst hc
      obtain rfl : n = 1 := by omega
      rw [if_pos rfl] at hr
      have H := Lib.hid hr
      clear hr
      go_enter Try.func36, Try.ntmps36
      go_wp2_with fail
      refine (crev_any (l.drop 1) _ 0 0 _ _ H.out hB R HR.out).mono ?_
      rintro e w1 ⟨rfl, hb⟩
      go_wp2_with fail
      go_ret
      exact ⟨rfl, hb⟩
    · rw [if_neg hc] at hr
      have H := Lib.hid hr
      clear hr
      go_enter Try.func36, Try.ntmps36
      go_wp2_with fail
      refine (crev_any (l.drop 1) _ (n - 1) (c - 1) _ _ H.out hB R HR.out).mono ?_
      rintro e w1 ⟨rfl, hb⟩
      go_wp2_with fail
      go_ret
      exact ⟨rfl, hb⟩
end Go.Proofs.Ytcdielgpmnhmjaa
