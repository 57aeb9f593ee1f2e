/- Contracts of part.Norm, part.Idle, scrivref.In. -/
import Derived.Test.YtcclcgapcnjcdaaMaker3
import Derived.Test.YtcclcgapcnjcdaaNormLaw
namespace Go.Proofs.Ytcclcgapcnjcdaa
open Go.ChangeShapes Go.WideShapes Go.RowKit
set_option linter.unusedVariables false
set_option linter.unusedSimpArgs false
set_option maxRecDepth 100000
set_option maxHeartbeats 4000000

section
variable {w w' : World} {B g : Nat} {ob ob' : Option Nat} {us : List U} {S : Nat → Prop}
theorem Mk.alloc (h : Mk w B g ob us) (o : Obj) : Mk (w.alloc o) B g ob us := by
  obtain ⟨o', p, c, ⟨v, h1, h2, h3⟩, h4⟩ := h
  exact ⟨o', p, c, ⟨v, h1.alloc o, World.ownsRow.alloc h2 o, h3⟩, h4⟩
theorem Mk.ge (h : Mk w B g ob us) : ∀ k, ob = some k → B ≤ k ∧ k < w.heap.size ∧ k ≠ g := by
  obtain ⟨o', p, c, ⟨v, h1, h2, h3⟩, h4⟩ := h
  intro k hk
  rw [← h3] at hk
  refine ⟨own_ge h2 k hk, own_lt h2 k hk, fun e => ?_⟩
  subst e
  exact own_blk_ne (t := 94) h2 h1 (by decide) hk
theorem Mk.lt (h : Mk w B g ob us) : g < w.heap.size := by
  obtain ⟨o', p, c, ⟨v, h1, h2, h3⟩, h4⟩ := h
  exact h1.lt
theorem Mk.only (h : Mk w B g ob us) (ho : Only w w' S) (h1 : ¬ S g) (h2 : ∀ k, ob = some k → ¬ S k) : Mk w' B g ob us := by
  obtain ⟨o', p, c, ⟨v, h3, h4, h5⟩, h6⟩ := h
  exact ⟨o', p, c, ⟨v, h3.only ho h1, own_only h4 ho fun k hk => h2 k (by rw [← h5]; exact hk), h5⟩, h6⟩
theorem MFr.below_ (h : MFr w w' g ob ob') (hB : B ≤ w.heap.size) (hg : B ≤ g) (ho : ∀ k, ob = some k → B ≤ k) : Below B w w' := h.1.below hB fun k hk => by
  rcases hk with rfl | hk
  · exact hg
  · exact ho k hk
theorem Mk.fresh (w : World) (o : Obj) : Mk (w.alloc (.cells #[.slice none 0 0, .string ⟨#[]⟩, .int .i64 0] 94)) w.heap.size w.heap.size none [] :=
  ⟨[], emp, 0, ⟨_, Blk.new w _ _, OwnP.nil _ _, rfl⟩, MRep.new⟩
end
/-- the result of a call that makes a delta or tells an error -/
def ResP (w w' : World) (e : Ending) (er : Int) (l : List Pt) : Prop := ∃ v, e = .returned (.tuple #[v, .int .i64 er]) ∧ OwnP w' w.heap.size v l ∧ Below w.heap.size w w'
theorem ResP.err (w : World) {w' : World} (er : Int) (hb : Below w.heap.size w w') : ResP w w' (.returned (.tuple #[.slice none 0 0, .int .i64 er])) er [] := ⟨_, rfl, OwnP.nil _ _, hb⟩
theorem ResP.rd {w w' : World} {e : Ending} {er : Int} {l : List Pt} (h : ResP w w' e er l) (ht : ∀ p ∈ l, p.2.2.size ≤ 140737488351232) :
    ∃ A c, e = .returned (.tuple #[.slice A l.length c, .int .i64 er]) ∧ RdP w' w'.heap.size A l.length c l ∧ Below w.heap.size w w' := by
  obtain ⟨v, rfl, ho, hb⟩ := h
  obtain ⟨A, c, rfl, hr⟩ := ho.rd ht
  exact ⟨A, c, rfl, hr, hb⟩
theorem norm_large (l : List Pt) (A : Option Addr) (n c B : Nat) (w : World) (h : RdP w B A n c l) (hn : (1600 : Int) < (n : Int)) :
    Calls Try.prog 35 #[.slice A n c] w fun e w' => ResP w w' e (normE l) (normL l) := by
  have hk : normE l = 2 := by unfold normE; rw [if_pos (by have := h.1; omega)]
  rw [norm_err (by omega), hk]
  clear h hk
  go_enter Try.func35, Try.ntmps35
  go_wp2_with fail
  go_ret2
  exact ResP.err w 2 (Below.refl _ _)
/-- how a part may be wrong -/
inductive PC (kd m : Int) (t : ByteArray) : Prop
  | lo (h : kd < 1) | hi (h : 3 < kd)
  | neg (k : kd = 1 ∨ kd = 2 ∨ kd = 3) (h : m < 0)
  | num (k : kd = 2) (h : 0 < m)
  | txt (k : kd = 1 ∨ kd = 3) (h : 0 ≤ m) (ht : t.toList.isEmpty = false) (h1 : 1 ≤ (t.size : Int))
  | big (k : kd = 1 ∨ kd = 3) (h : 500 < m) (ht : t = ⟨#[]⟩)
  | bigt (k : kd = 2) (h : m = 0) (ht : 500 < (t.size : Int))
  | keep (k : kd = 1) (h : 0 ≤ m) (h5 : m ≤ 500) (ht : t = ⟨#[]⟩)
  | cut (k : kd = 3) (h : 0 ≤ m) (h5 : m ≤ 500) (ht : t = ⟨#[]⟩)
  | put (k : kd = 2) (h : m = 0) (ht : (t.size : Int) ≤ 500)
theorem pc_any (kd m : Int) (t : ByteArray) : PC kd m t := by
  by_cases h1 : kd < 1
  · exact .lo h1
  by_cases h3 : 3 < kd
  · exact .hi h3
  by_cases hm : m < 0
  · exact .neg (by omega) hm
  by_cases h2 : kd = 2
  · by_cases h0 : 0 < m
    · exact .num h2 h0
    · by_cases ht : 500 < t.size
      · exact .bigt h2 (by omega) (by omega)
      · exact .put h2 (by omega) (by omega)
  · rcases str_cases t with ht | ⟨ht, ht1⟩
    · by_cases h5 : 500 < m
      · exact .big (by omega) h5 ht
      · rcases (show kd = 1 ∨ kd = 3 by omega) with hk | hk
        · exact .keep hk (by omega) (by omega) ht
        · exact .cut hk (by omega) (by omega) ht
    · exact .txt (by omega) (by omega) ht ht1
theorem norm_step (l : List Pt) (k : Nat) (h : k < l.length) (hz : nerr (l.take k) = 0) : nerr1 l[k] ≠ 0 → nerr l = nerr1 l[k] := by
  intro hne
  have e : l = l.take k ++ (l[k] :: l.drop (k + 1)) := by
    rw [← List.drop_eq_getElem_cons h, List.take_append_drop]
  have h2 : nerr l = nerr (l[k] :: l.drop (k + 1)) := by
    conv => lhs; rw [e]
    exact nerr_append _ _ hz
  rw [h2]
  simp only [nerr]
  rw [if_pos hne]
theorem norm_any (l : List Pt) (A : Option Addr) (n c B : Nat) (w : World) (h : RdP w B A n c l) (hB : B ≤ w.heap.size) :
    Calls Try.prog 35 #[.slice A n c] w fun e w' => ResP w w' e (normE l) (normL l) := by
  by_cases hn : (1600 : Int) < (n : Int)
  · exact norm_large l A n c B w h hn
  have hn' : (n : Int) ≤ 1600 := by omega
  obtain ⟨E, hE⟩ : ∃ E, normE l = E := ⟨_, rfl⟩
  obtain ⟨L, hL⟩ : ∃ L, normL l = L := ⟨_, rfl⟩
  rw [hE, hL]
  have HE := Lib.hid hE
  have HL := Lib.hid hL
  have H := Lib.hid h
  have Herr : Hid (∀ r : Int, nerr l = r → r ≠ 0 → E = r ∧ L = []) := Lib.hid fun r h1 h2 => by
    have h3 : normE l = r := by unfold normE; rw [if_neg (by have := h.1; omega), if_pos (by omega), h1]
    exact ⟨by rw [← hE, h3], by rw [← hL, norm_err (by omega)]⟩
  clear h hn hE hL
  go_enter Try.func35, Try.ntmps35
  have hbm := (Below.refl w.heap.size w).alloc (Nat.le_refl _) (.cells #[.slice none 0 0, .string ⟨#[]⟩, .int .i64 0] 94)
  have Hmk := Lib.hid (Mk.fresh w (.cells #[.slice none 0 0, .string ⟨#[]⟩, .int .i64 0] 94))
  go_wp2_with fail
  have hg0 : w.heap.size < (w.alloc (.cells #[.slice none 0 0, .string ⟨#[]⟩, .int .i64 0] 94)).heap.size := by simp
  go_loopw [6, 17] (fun x i wr => ∃ (k : Nat) (ob : Option Nat), k ≤ n ∧ i = .int .i64 k ∧ Hid (nerr (l.take k) = 0) ∧ Hid (Mk wr w.heap.size w.heap.size ob (units (l.take k))) ∧ Below w.heap.size w wr) (fun _ i _ => n - (intOf i).toNat)
  case atStart => exact ⟨0, none, by omega, rfl, Lib.hid rfl, Hmk, hbm⟩
  case round =>
    obtain ⟨k, ob, hk, rfl, hz, hmk, hbw⟩ := hrel
    by_cases hlt : k < n
    · have hkl : k < l.length := by have := H.out.1; omega
      obtain ⟨b, o, rfl, hb, c0, c1, c2⟩ := (H.out.below (hbw.mono hB)).at_ k hlt
      have hsz := H.out.2.2 l[k] (List.getElem_mem hkl)
      have hts : Hid (l.take (k + 1) = l.take k ++ [l[k]]) := Lib.hid (by rw [List.take_succ_eq_append_getElem hkl])
      have hstep := Lib.hid (norm_step l k hkl hz.out)
      have hlen : Hid ((units (l.take k)).length ≤ 800000) := Lib.hid (by
        have h1 := len_noks (l.take k) ((nerr_zero _).1 hz.out)
        rw [List.length_take] at h1
        omega)
      obtain ⟨p, hp⟩ : ∃ p, p = l[k] := ⟨_, rfl⟩
      rw [← hp] at hts hstep c0 c1 c2 hsz
      clear hp
      obtain ⟨kd, m, t⟩ := p
      simp only at c0 c1 c2 hsz
      have hk0 : (0 : Int) ≤ (k : Int) := by omega
      have hkn : (k : Int) < (n : Int) := by omega
      have hbl : b < wr.heap.size := by have := hbw.size; omega
      have hblk := Blk.new wr 56 #[.int .i64 kd, .int .i64 m, .string t]
      have hw1 := hbw.alloc hbw.size (.cells #[.int .i64 kd, .int .i64 m, .string t] 56)
      have hmk1 := Lib.hid (hmk.out.alloc (.cells #[.int .i64 kd, .int .i64 m, .string t] 56))
      clear hblk
      have hB1 : w.heap.size ≤ (wr.alloc (.cells #[.int .i64 kd, .int .i64 m, .string t] 56)).heap.size := hw1.size
      have hgood : Hid (nerr1 (kd, m, t) = 0 → nerr (l.take (k + 1)) = 0) := Lib.hid fun h => by
        rw [hts.out, nerr_append _ _ hz.out]
        simp [nerr, h]
      rcases pc_any kd m t with h | h | ⟨hkk, h⟩ | ⟨rfl, h⟩ | ⟨hkk, h, ht, h1⟩ | ⟨hkk, h, rfl⟩ | ⟨rfl, rfl, ht⟩ | ⟨rfl, h, h5, rfl⟩ | ⟨rfl, h, h5, rfl⟩ | ⟨rfl, rfl, ht⟩
      · have he := Herr.out 3 (by rw [hstep.out] <;> (unfold nerr1; simp only; rw [if_pos (by omega)]; try decide)) (by decide)
        obtain ⟨rfl, rfl⟩ := he
        go_wp2_with fail
        go_ret2
        exact ResP.err w 3 hw1
      · have he := Herr.out 3 (by rw [hstep.out] <;> (unfold nerr1; simp only; rw [if_pos (by omega)]; try decide)) (by decide)
        obtain ⟨rfl, rfl⟩ := he
        go_wp2_with fail
        go_ret2
        exact ResP.err w 3 hw1
      · have he := Herr.out 3 (by rw [hstep.out] <;> (unfold nerr1; simp only; rw [if_pos (by omega)]; try decide)) (by decide)
        obtain ⟨rfl, rfl⟩ := he
        rcases hkk with rfl | rfl | rfl
        all_goals
          go_wp2_with fail
          go_ret2
          exact ResP.err w 3 hw1
      · have hb2 : nerr1 (2, m, t) = 3 := by unfold nerr1; rw [if_pos (.inr (.inr (.inr (.inl ⟨rfl, h⟩))))]
        have he := Herr.out 3 (by rw [hstep.out (by rw [hb2]; decide), hb2]) (by decide)
        clear hb2
        obtain ⟨rfl, rfl⟩ := he
        go_wp2_with fail
        go_ret2
        exact ResP.err w 3 hw1
      · have he := Herr.out 3 (by rw [hstep.out] <;> (unfold nerr1; simp only; rw [if_pos (by omega)]; try decide)) (by decide)
        obtain ⟨rfl, rfl⟩ := he
        rcases hkk with rfl | rfl
        all_goals
          go_wp2_with fail
          go_ret2
          exact ResP.err w 3 hw1
      · have hb2 : nerr1 (kd, m, ⟨#[]⟩) = 2 := nerr1_big hkk h
        have he := Herr.out 2 (by rw [hstep.out (by rw [hb2]; decide), hb2]) (by decide)
        obtain ⟨rfl, rfl⟩ := he
        clear hb2
        rcases hkk with rfl | rfl
        all_goals
          go_wp2_with fail
          go_ret2
          exact ResP.err w 2 hw1
      · have he := Herr.out 2 (by rw [hstep.out] <;> (unfold nerr1; simp only; rw [if_neg (by omega), if_pos (by omega)]; try decide)) (by decide)
        obtain ⟨rfl, rfl⟩ := he
        rcases str_cases t with rfl | ⟨ht0, ht1⟩
        · exact absurd ht (by decide)
        · go_wp2_with fail
          go_ret2
          exact ResP.err w 2 hw1
      · have hnz := hgood.out ((nerr1_zero _).2 (.inl ⟨.inl rfl, h, h5, rfl⟩))
        have Hnz := Lib.hid hnz
        clear hnz
        go_wp2_with fail
        refine (mkeep_any m hmk1.out (by have := hlen.out; omega) hB1 h (by omega)).mono ?_
        rintro e w2 ⟨rfl, ob2, hm2, hfr⟩
        have hge := hmk1.out.ge
        have hw2 := hw1.trans (hfr.below_ hw1.size (Nat.le_refl _) fun k hk => (hge k hk).1)
        have Hm2 := Lib.hid hm2
        clear hm2 hfr hge
        go_wp2_with fail
        go_roundw
        case rel => exact ⟨k + 1, ob2, by omega, by go_num, Hnz, Lib.hid (by rw [hts.out, units_append]; simpa [units, up, ku] using Hm2.out), hw2⟩
        case measure => simp [intOf]; omega
      · have hnz := hgood.out ((nerr1_zero _).2 (.inl ⟨.inr rfl, h, h5, rfl⟩))
        have Hnz := Lib.hid hnz
        clear hnz
        go_wp2_with fail
        refine (mcut_any m hmk1.out (by have := hlen.out; omega) h (by omega)).mono ?_
        rintro e w2 ⟨rfl, hm2, hfr⟩
        have hge := hmk1.out.ge
        have hw2 := hw1.trans (MFr.below_ (ob' := ob) ⟨hfr, .inl rfl⟩ hw1.size (Nat.le_refl _) fun k hk => (hge k hk).1)
        have Hm2 := Lib.hid hm2
        clear hm2 hfr hge
        go_wp2_with fail
        go_roundw
        case rel => exact ⟨k + 1, ob, by omega, by go_num, Hnz, Lib.hid (by rw [hts.out, units_append]; simpa [units, up, cu] using Hm2.out), hw2⟩
        case measure => simp [intOf]; omega
      · have hnz := hgood.out ((nerr1_zero _).2 (.inr ⟨rfl, rfl, by simp only; omega⟩))
        have Hnz := Lib.hid hnz
        clear hnz
        go_wp2_with fail
        refine (mput_any t hmk1.out (by have := hlen.out; omega) (by omega)).mono ?_
        rintro e w2 ⟨rfl, hm2, hfr⟩
        have hge := hmk1.out.ge
        have hw2 := hw1.trans (MFr.below_ (ob' := ob) ⟨hfr, .inl rfl⟩ hw1.size (Nat.le_refl _) fun k hk => (hge k hk).1)
        have Hm2 := Lib.hid hm2
        clear hm2 hfr hge
        go_wp2_with fail
        go_roundw
        case rel => exact ⟨k + 1, ob, by omega, by go_num, Hnz, Lib.hid (by rw [hts.out, units_append]; simpa [units, up, pu] using Hm2.out), hw2⟩
        case measure => simp [intOf]; omega
    · have htk : l.take k = l := List.take_of_length_le (by have := H.out.1; omega)
      rw [htk] at hz hmk
      have hlen : Hid ((units l).length ≤ 800000) := Lib.hid (by
        have h1 := len_noks l ((nerr_zero _).1 hz.out)
        have := H.out.1
        omega)
      have hEE : Hid (E = chk (grp (cz (units l)))) := Lib.hid (by
        rw [← HE.out]; unfold normE
        rw [if_neg (by have := H.out.1; omega), if_neg (by have := hz.out; omega)])
      have htx : Hid (∀ p ∈ grp (cz (units l)), p.2.2.size ≤ 140737488351232) := Lib.hid fun p hp => by
        have h1 := text_le (fine_grp (cz (units l))) p hp
        rw [units_grp, len_cz] at h1
        have := hlen.out
        omega
      clear htk
      go_wp2_with fail
      refine (mdone_any hmk.out (by have := hlen.out; omega) hbw.size).mono ?_
      rintro e w2 ⟨v, ob2, rfl, hown, _, hfr⟩
      have hge := hmk.out.ge
      have hw2 := hbw.trans (hfr.below_ hbw.size (Nat.le_refl _) fun k hk => (hge k hk).1)
      obtain ⟨A2, c2, rfl, hrd⟩ := hown.rd htx.out
      have Hown := Lib.hid hown
      have Hrd := Lib.hid hrd
      have hLL : Hid (chk (grp (cz (units l))) = 0 → L = grp (cz (units l))) := Lib.hid fun h => by
        rw [← HL.out]; unfold normL; rw [if_pos (by rw [HE.out, hEE.out, h])]
      have hL0 : Hid (chk (grp (cz (units l))) ≠ 0 → L = []) := Lib.hid fun h => by
        rw [← HL.out]; exact norm_err (by rw [HE.out, hEE.out]; exact h)
      have hcn : Hid (Cn (cz (units l))) := Lib.hid (cn_cz _)
      have hfine := Lib.hid (fine_grp (cz (units l)))
      have hunf : Hid (∀ p ∈ grp (cz (units l)), fitE p ≠ 0 → chk (grp (cz (units l))) = 2 ∧ fitE p = 2) := Lib.hid fun p hp hf => ⟨chk_unfit (cn_cz _) hp hf, by rcases fitE_large p (fine_grp _ p hp) with h | h; exact absurd h hf; exact h⟩
      clear hown hrd hge hfr htx hcn
      generalize grp (cz (units l)) = O at *
      have hOn := Hrd.out.le
      go_wp2_with fail
      have hw2s := hw2.size
      go_loopw [9, 10, 82] (fun x y i wr2 => ∃ (j : Nat), j ≤ O.length ∧ i = .int .i64 j ∧ Hid (∀ p ∈ O.take j, fitE p = 0) ∧ Below w2.heap.size w2 wr2) (fun _ _ i _ => O.length - (intOf i).toNat)
      case atStart => exact ⟨0, by omega, rfl, Lib.hid (by simp), Below.refl _ _⟩
      case round =>
        obtain ⟨j, hj, rfl, hfit, hbw2⟩ := hrel
        by_cases hlt2 : j < O.length
        · obtain ⟨b, o, rfl, hb, c0, c1, c2⟩ := (Hrd.out.below hbw2).at_ j hlt2
          have hsz := Hrd.out.2.2 O[j] (List.getElem_mem hlt2)
          have hts : Hid (O.take (j + 1) = O.take j ++ [O[j]]) := Lib.hid (by rw [List.take_succ_eq_append_getElem hlt2])
          have hun := Lib.hid (hunf.out O[j] (List.getElem_mem hlt2))
          obtain ⟨p, hp⟩ : ∃ p, p = O[j] := ⟨_, rfl⟩
          rw [← hp] at hts c0 c1 c2 hsz hun
          clear hp
          obtain ⟨kd, m, t⟩ := p
          simp only at c0 c1 c2 hsz
          have hk0 : (0 : Int) ≤ (j : Int) := by omega
          have hkn : (j : Int) < (O.length : Int) := by omega
          have hbl : b < wr.heap.size := by have := hbw2.size; omega
          have hw3 := hbw2.alloc hbw2.size (.cells #[.int .i64 kd, .int .i64 m, .string t] 56)
          obtain ⟨r, hr⟩ : ∃ r, fitE (kd, m, t) = r := ⟨_, rfl⟩
          rw [hr] at hun
          have Hr := Lib.hid hr
          clear hr
          go_wp2_with fail
          refine (fit_call kd m t r Hr.out hsz _).mono ?_
          rintro e w3 ⟨rfl, hb3⟩
          have hw4 := hw3.trans (hb3.mono hw3.size)
          clear hb3
          by_cases hr0 : r = 0
          · subst hr0
            go_wp2_with fail
            go_roundw
            case rel =>
              refine ⟨j + 1, by omega, by go_num, Lib.hid ?_, hw4⟩
              intro p hp
              rw [hts.out, List.mem_append, List.mem_singleton] at hp
              rcases hp with hp | rfl
              · exact hfit.out p hp
              · exact Hr.out
            case measure => simp [intOf]; omega
          · have hr1 : (r != 0) = true := by simpa using hr0
            obtain ⟨hc2, rfl⟩ := hun.out hr0
            have hE2 : E = 2 := by rw [hEE.out, hc2]
            have hLe : L = [] := hL0.out (by rw [hc2]; decide)
            subst hE2 hLe
            clear hc2
            have hfin := hw2.trans (hw4.mono hw2.size)
            go_wp2_with fail
            go_ret2
            exact ResP.err w 2 hfin
        · have hfin := hw2.trans (hbw2.mono hw2.size)
          go_wp2_with fail
          refine (chk_any O A2 O.length c2 w2.heap.size _ (Hrd.out.below hbw2) hbw2.size).mono ?_
          rintro e w3 ⟨rfl, hb3⟩
          have hfin2 := hfin.trans (hb3.mono hfin.size)
          have ho3 := Lib.hid ((Hown.out.below hbw2).below hb3)
          clear hb3
          rw [← hEE.out]
          by_cases hE0 : E = 0
          · subst hE0
            obtain rfl := hLL.out hEE.out.symm
            go_wp2_with fail
            go_ret2
            exact ⟨_, rfl, ho3.out, hfin2⟩
          · have hE1 : (E != 0) = true := by simpa using hE0
            obtain rfl := hL0.out (by rw [← hEE.out]; exact hE0)
            go_wp2_with fail
            go_ret2
            exact ResP.err w E hfin2
theorem texts_norm (l : List Pt) : ∀ p ∈ normL l, p.2.2.size ≤ 140737488351232 := by
  by_cases h : normE l = 0
  · exact text_good (norm_chk h).1
  · rw [norm_err h]; simp
theorem norm_rd (l : List Pt) (A : Option Addr) (n c B : Nat) (w : World) (h : RdP w B A n c l) (hB : B ≤ w.heap.size) :
    Calls Try.prog 35 #[.slice A n c] w fun e w' => ∃ A c, e = .returned (.tuple #[.slice A (normL l).length c, .int .i64 (normE l)]) ∧ RdP w' w'.heap.size A (normL l).length c (normL l) ∧ Below w.heap.size w w' :=
  (norm_any l A n c B w h hB).mono fun e w' h => h.rd (texts_norm l)
end Go.Proofs.Ytcclcgapcnjcdaa
