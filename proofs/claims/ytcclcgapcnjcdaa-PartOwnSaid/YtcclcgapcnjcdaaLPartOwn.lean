/- walk of scrivkeep.PartOwn. -/
import Derived.Test.YtcclcgapcnjcdaaSpoilOwn
import Derived.Test.YtcclcgapcnjcdaaComp
import Derived.Test.YtcclcgapcnjcdaaMeet
import Derived.Test.YtcclcgapcnjcdaaRefIn
import Derived.Test.YtcclcgapcnjcdaaInts
import Derived.Test.YtcclcgapcnjcdaaOpenPartsN
namespace Go.Proofs.Ytcclcgapcnjcdaa
open Go.ChangeShapes Go.WideShapes Go.RowKit
set_option linter.unusedVariables false
set_option linter.unusedSimpArgs false
set_option maxRecDepth 100000
set_option maxHeartbeats 4000000

/-- a row of the call's own, short, of short texts -/
structure Mine (w : World) (B : Nat) (v : Value) (l : List Pt) : Prop where
  own : OwnP w B v l
  len : l.length ≤ 1600
  txt : ∀ p ∈ l, p.2.2.size ≤ 140737488351232
theorem small_of {l : List Pt} (h : chk l = 0 ∨ l = []) : l.length ≤ 1600 ∧ ∀ p ∈ l, p.2.2.size ≤ 140737488351232 := by
  rcases h with h | rfl
  · exact ⟨((good_iff l).1 h).1, text_good h⟩
  · exact ⟨by simp, by simp⟩
theorem small_norm (l : List Pt) : chk (normL l) = 0 ∨ normL l = [] := by
  by_cases h : normE l = 0
  · exact .inl (norm_chk h).1
  · exact .inr (norm_err h)
theorem small_comp (a b : List Pt) : chk (compL a b) = 0 ∨ compL a b = [] := by
  by_cases h : compE a b = 0
  · exact .inl (comp_chk h).2.2.2.2
  · exact .inr (comp_err h)
theorem small_meetC (a b : List Pt) : chk (meetC a b) = 0 ∨ meetC a b = [] := by
  by_cases h : meetE a b = 0
  · exact .inl (meet_good h).1
  · exact .inr (meet_err h).1
theorem small_meetD (a b : List Pt) : chk (meetD a b) = 0 ∨ meetD a b = [] := by
  by_cases h : meetE a b = 0
  · exact .inl (meet_good h).2
  · exact .inr (meet_err h).2
theorem Mine.of {w : World} {B : Nat} {v : Value} {l : List Pt} (h : OwnP w B v l) (hs : chk l = 0 ∨ l = []) : Mine w B v l := ⟨h, (small_of hs).1, (small_of hs).2⟩
theorem Mine.step {w w' : World} {B : Nat} {v : Value} {l : List Pt} (h : Mine w B v l) (hb : Below w.heap.size w w') : Mine w' B v l := ⟨h.own.below hb, h.len, h.txt⟩
theorem Mine.only {w w' : World} {B : Nat} {v : Value} {l : List Pt} {S : Nat → Prop} (h : Mine w B v l) (ho : Only w w' S) (hv : ∀ k, v.ownBlock = some k → ¬ S k) : Mine w' B v l := ⟨own_only h.own ho hv, h.len, h.txt⟩
theorem Mine.rd {w : World} {B : Nat} {v : Value} {l : List Pt} (h : Mine w B v l) : ∃ A c, v = .slice A l.length c ∧ RdP w w.heap.size A l.length c l := h.own.rd h.txt
theorem Mine.form {w : World} {B : Nat} {v : Value} {l : List Pt} (h : Mine w B v l) : ∃ A n c, v = .slice A n c := by
  obtain ⟨A, c, e⟩ := h.own.form
  exact ⟨A, _, c, e⟩
theorem Mine.lt {w : World} {B : Nat} {v : Value} {l : List Pt} (h : Mine w B v l) : ∀ k, v.ownBlock = some k → B ≤ k ∧ k < w.heap.size := World.ownsRow.lt h.own
/-- all rows from the i-th on are the call's own -/
def AllM (w : World) (vs : Nat → Value) (ls : Nat → List Pt) (i : Nat) : Prop := ∀ j, i ≤ j → j < 4 → ∃ B, Mine w B (vs j) (ls j)
theorem AllM.step {w w' : World} {vs : Nat → Value} {ls : Nat → List Pt} {i : Nat} (h : AllM w vs ls i) (hb : Below w.heap.size w w') : AllM w' vs ls i := fun j h1 h2 => by
  obtain ⟨B, hm⟩ := h j h1 h2
  exact ⟨B, hm.step hb⟩
theorem AllM.only {w w' : World} {vs : Nat → Value} {ls : Nat → List Pt} {i : Nat} {S : Nat → Prop} (h : AllM w vs ls i) (ho : Only w w' S) (hv : ∀ j, i ≤ j → j < 4 → ∀ k, (vs j).ownBlock = some k → ¬ S k) : AllM w' vs ls i := fun j h1 h2 => by
  obtain ⟨B, hm⟩ := h j h1 h2
  exact ⟨B, hm.only ho (hv j h1 h2)⟩
theorem Try.info_pl : (Try.prog.info? 45).map (fun i => (i.zero, i.size, i.bytes)) = some (some (.slice none 0 0), 1, 24) := by kernel_rfl
theorem own_ne_ {w : World} {B B' : Nat} {e e' : TypeId} {size size' n n' : Nat} {v v' : Value} {xs xs' : List Value} (h : w.ownsRow B e size v n xs) (h' : w.ownsRow B' e' size' v' n' xs') (hne : e ≠ e') : v.ownBlock = none ∨ v.ownBlock ≠ v'.ownBlock := by
  rcases h.2 with ⟨rfl, _⟩ | ⟨g, cap, cur, rfl, _, hg, _⟩
  · exact .inl rfl
  · rcases h'.2 with ⟨rfl, _⟩ | ⟨g', cap', cur', rfl, _, hg', _⟩
    · exact .inr (by simp [Value.ownBlock])
    · refine .inr fun he => ?_
      simp only [Value.ownBlock, Option.some.injEq] at he
      subst he
      rw [hg] at hg'
      injection hg' with hg'
      injection hg' with _ h2
      exact hne h2
theorem Mine.grown {w w' : World} {B B' : Nat} {v v' : Value} {l : List Pt} {n' size' : Nat} {xs' : List Value} (h : Mine w B v l) (hr : w.ownsRow B' 45 size' v' n' xs') (hg : w.grownBy w' v'.ownBlock) : Mine w' B v l :=
  ⟨own_kept h.own hg (own_ne_ h.own hr (by decide)), h.len, h.txt⟩
/-- what was wanted, in rows of its own from block Z on -/
def Wants (w : World) (Z : Nat) (wv : Value) (wl : List Value) (ls : Nat → List Pt) : Prop := w.ownsRow Z 45 1 wv 4 wl ∧ wl.length = 4 ∧ ∀ j, j < 4 → ∃ u, wl[j]? = some u ∧ Mine w Z u (ls j)
theorem Wants.only {w w' : World} {Z : Nat} {wv : Value} {wl : List Value} {ls : Nat → List Pt} {S : Nat → Prop} (h : Wants w Z wv wl ls) (ho : Only w w' S) (hS : ∀ k, S k → k < Z) : Wants w' Z wv wl ls := by
  refine ⟨own_only h.1 ho fun k hk hs => ?_, h.2.1, fun j hj => ?_⟩
  · have := (World.ownsRow.lt h.1 k hk).1
    have := hS k hs
    omega
  · obtain ⟨u, e, hm⟩ := h.2.2 j hj
    refine ⟨u, e, hm.only ho fun k hk hs => ?_⟩
    have := (hm.lt k hk).1
    have := hS k hs
    omega
theorem Wants.step {w w' : World} {Z : Nat} {wv : Value} {wl : List Value} {ls : Nat → List Pt} (h : Wants w Z wv wl ls) (hb : Below w.heap.size w w') : Wants w' Z wv wl ls :=
  ⟨own_below h.1 hb, h.2.1, fun j hj => (h.2.2 j hj).elim fun u hu => ⟨u, hu.1, hu.2.step hb⟩⟩
theorem pa_e : normE [(2, 0, ⟨#[97]⟩)] = 0 := by decide
theorem pa_l : normL [(2, 0, ⟨#[97]⟩)] = [(2, 0, ⟨#[97]⟩)] := by decide
theorem walk_PartOwn (v : Value) (a : List Pt) (v' : Value) (b : List Pt) (w : World) (ha : IsPartsN w v a) (hb : IsPartsN w v' b) :
    Calls Try.prog 6 #[v, v'] w fun e w' => e = .returned (.bool true) ∧ Below w.heap.size w w' := by
  obtain ⟨A, n, c, rfl, ha, hn, hA⟩ := ha
  obtain ⟨A', n', c', rfl, hb, hn', hA'⟩ := hb
  have Ha := Lib.hid ha
  have Hb := Lib.hid hb
  have HA := Lib.hid hA
  have HA' := Lib.hid hA'
  have Hn := Lib.hid hn
  have Hn' := Lib.hid hn'
  clear ha hb hA hA' hn hn'
  go_enter Try.func6, Try.ntmps6
  go_wp2_with fail
  refine (mark_any _).mono ?_
  rintro e w1 ⟨rfl, hb1⟩
  have Ha := Lib.hid (Ha.out.step hb1)
  have Hb := Lib.hid (Hb.out.step hb1)
  have hw := hb1
  clear hb1
  unfold pval mk9
  go_wp2_with fail
  refine (roomy_any a mk9 A n c w1 Ha.out Hn.out HA.out).mono ?_
  rintro e w2 ⟨gx, rfl, hX, hb2⟩
  have hgx : w.heap.size ≤ gx := Nat.le_trans hw.size hX.1
  have Ha := Lib.hid (Ha.out.step hb2)
  have Hb := Lib.hid (Hb.out.step hb2)
  have HX := Lib.hid hX
  have hw := hw.trans (hb2.mono hw.size)
  clear hb2 hX
  go_wp2_with fail
  refine (mark_any _).mono ?_
  rintro e w3 ⟨rfl, hb3⟩
  have Ha := Lib.hid (Ha.out.step hb3)
  have Hb := Lib.hid (Hb.out.step hb3)
  have HX := Lib.hid (HX.out.step hb3)
  have hw := hw.trans (hb3.mono hw.size)
  clear hb3
  unfold pval mk9
  go_wp2_with fail
  refine (roomy_any b mk9 A' n' c' w3 Hb.out Hn'.out HA'.out).mono ?_
  rintro e w4 ⟨gy, rfl, hY, hb4⟩
  have hgy : w.heap.size ≤ gy := Nat.le_trans hw.size hY.1
  have Ha := Lib.hid (Ha.out.step hb4)
  have Hb := Lib.hid (Hb.out.step hb4)
  have hxy : gx ≠ gy := by have h1 := HX.out.lt; have h2 := hY.1; omega
  have HX := Lib.hid (HX.out.step hb4)
  have HY := Lib.hid hY
  have hw := hw.trans (hb4.mono hw.size)
  clear hb4 hY
  have Rx := Lib.hid (HX.out.rd Ha.out Hn.out)
  have Ry := Lib.hid (HY.out.rd Hb.out Hn'.out)
  go_wp2_with fail
  refine (norm_any a _ n (n + 3) w4.heap.size w4 Rx.out (Nat.le_refl _)).mono ?_
  rintro e w5 ⟨v1, rfl, ho1, hb5⟩
  generalize normE a = E1
  have M1 := Mine.of ho1 (small_norm a)
  generalize normL a = L1 at *
  have B1 := Lib.hid (M1.lt)
  have Y1 := Lib.hid (fun k hk => And.intro (show k ≠ gx by have := HX.out.lt; have := (B1.out k hk).1; omega) (And.intro (show k ≠ gy by have := HY.out.lt; have := (B1.out k hk).1; omega) (show w.heap.size ≤ k by have := hw.size; have := (B1.out k hk).1; omega)))
  have M1 := Lib.hid M1
  have Ha := Lib.hid (Ha.out.step hb5)
  have Hb := Lib.hid (Hb.out.step hb5)
  have HX := Lib.hid (HX.out.step hb5)
  have HY := Lib.hid (HY.out.step hb5)
  have hw := hw.trans (hb5.mono hw.size)
  clear hb5 ho1 Rx Ry
  have Rx := Lib.hid (HX.out.rd Ha.out Hn.out)
  have Ry := Lib.hid (HY.out.rd Hb.out Hn'.out)
  go_wp2_with fail
  refine (comp_any a b _ _ n n' (n + 3) (n' + 3) w5 Rx.out Ry.out).mono ?_
  rintro e w6 ⟨v2, rfl, ho2, hb6⟩
  generalize compE a b = E2
  have M2 := Mine.of ho2 (small_comp a b)
  generalize compL a b = L2 at *
  have B2 := Lib.hid (M2.lt)
  have Y2 := Lib.hid (fun k hk => And.intro (show k ≠ gx by have := HX.out.lt; have := (B2.out k hk).1; omega) (And.intro (show k ≠ gy by have := HY.out.lt; have := (B2.out k hk).1; omega) (show w.heap.size ≤ k by have := hw.size; have := (B2.out k hk).1; omega)))
  have D12 := Lib.hid (fun k (hk : v1.ownBlock = some k) (hk2 : v2.ownBlock = some k) => (show False from by have := (B1.out k hk).2; have := (B2.out k hk2).1; omega))
  have M2 := Lib.hid M2
  have M1 := Lib.hid (M1.out.step hb6)
  have Ha := Lib.hid (Ha.out.step hb6)
  have Hb := Lib.hid (Hb.out.step hb6)
  have HX := Lib.hid (HX.out.step hb6)
  have HY := Lib.hid (HY.out.step hb6)
  have hw := hw.trans (hb6.mono hw.size)
  have hs6 := hb6.size
  clear hb6 ho2 Rx Ry
  have Rx := Lib.hid (HX.out.rd Ha.out Hn.out)
  have Ry := Lib.hid (HY.out.rd Hb.out Hn'.out)
  go_wp2_with fail
  refine (meet_any a b _ _ n n' (n + 3) (n' + 3) w6 Rx.out Ry.out).mono ?_
  rintro e w7 ⟨v3, v4, rfl, ho3, ho4, hd34, hb7⟩
  generalize meetE a b = E3
  have M3 := Mine.of ho3 (small_meetC a b)
  have M4 := Mine.of ho4 (small_meetD a b)
  generalize meetC a b = L3 at *
  generalize meetD a b = L4 at *
  have B3 := Lib.hid (M3.lt)
  have B4 := Lib.hid (M4.lt)
  have Y3 := Lib.hid (fun k hk => And.intro (show k ≠ gx by have := HX.out.lt; have := (B3.out k hk).1; omega) (And.intro (show k ≠ gy by have := HY.out.lt; have := (B3.out k hk).1; omega) (show w.heap.size ≤ k by have := hw.size; have := (B3.out k hk).1; omega)))
  have Y4 := Lib.hid (fun k hk => And.intro (show k ≠ gx by have := HX.out.lt; have := (B4.out k hk).1; omega) (And.intro (show k ≠ gy by have := HY.out.lt; have := (B4.out k hk).1; omega) (show w.heap.size ≤ k by have := hw.size; have := (B4.out k hk).1; omega)))
  have D13 := Lib.hid (fun k (hk : v1.ownBlock = some k) (hk2 : v3.ownBlock = some k) => (show False from by have := (B1.out k hk).2; have := (B3.out k hk2).1; omega))
  have D14 := Lib.hid (fun k (hk : v1.ownBlock = some k) (hk2 : v4.ownBlock = some k) => (show False from by have := (B1.out k hk).2; have := (B4.out k hk2).1; omega))
  have D23 := Lib.hid (fun k (hk : v2.ownBlock = some k) (hk2 : v3.ownBlock = some k) => (show False from by have := (B2.out k hk).2; have := (B3.out k hk2).1; omega))
  have D24 := Lib.hid (fun k (hk : v2.ownBlock = some k) (hk2 : v4.ownBlock = some k) => (show False from by have := (B2.out k hk).2; have := (B4.out k hk2).1; omega))
  have D34 := Lib.hid hd34
  have M1 := M1.out.step hb7
  have M2 := M2.out.step hb7
  obtain ⟨vs, hv0, hv1, hv2, hv3⟩ : ∃ vs : Nat → Value, vs 0 = v1 ∧ vs 1 = v2 ∧ vs 2 = v3 ∧ vs 3 = v4 := ⟨fun j => match j with | 0 => v1 | 1 => v2 | 2 => v3 | _ => v4, rfl, rfl, rfl, rfl⟩
  obtain ⟨ls, hl0, hl1, hl2, hl3⟩ : ∃ ls : Nat → List Pt, ls 0 = L1 ∧ ls 1 = L2 ∧ ls 2 = L3 ∧ ls 3 = L4 := ⟨fun j => match j with | 0 => L1 | 1 => L2 | 2 => L3 | _ => L4, rfl, rfl, rfl, rfl⟩
  have HM : Hid (AllM w7 vs ls 0) := Lib.hid (by
    intro j _ hj
    match j, hj with
    | 0, _ => rw [hv0, hl0]; exact ⟨_, M1⟩
    | 1, _ => rw [hv1, hl1]; exact ⟨_, M2⟩
    | 2, _ => rw [hv2, hl2]; exact ⟨_, M3⟩
    | 3, _ => rw [hv3, hl3]; exact ⟨_, M4⟩)
  have HYS : Hid (∀ j, j < 4 → ∀ k, (vs j).ownBlock = some k → k ≠ gx ∧ k ≠ gy ∧ w.heap.size ≤ k) := Lib.hid (by
    intro j hj
    match j, hj with
    | 0, _ => rw [hv0]; exact Y1.out
    | 1, _ => rw [hv1]; exact Y2.out
    | 2, _ => rw [hv2]; exact Y3.out
    | 3, _ => rw [hv3]; exact Y4.out)
  have HD : Hid (∀ i j, i < j → j < 4 → ∀ k, (vs i).ownBlock = some k → (vs j).ownBlock ≠ some k) := Lib.hid (by
    intro i j hij hj
    match i, j, hij, hj with
    | 0, 1, _, _ => rw [hv0, hv1]; exact D12.out
    | 0, 2, _, _ => rw [hv0, hv2]; exact D13.out
    | 0, 3, _, _ => rw [hv0, hv3]; exact D14.out
    | 1, 2, _, _ => rw [hv1, hv2]; exact D23.out
    | 1, 3, _, _ => rw [hv1, hv3]; exact D24.out
    | 2, 3, _, _ => rw [hv2, hv3]; exact D34.out
    | i + 3, j, hij, hj => omega)
  obtain ⟨A1, n1, c1, rfl⟩ := M1.form
  obtain ⟨A2, n2, c2, rfl⟩ := M2.form
  obtain ⟨A3, n3, c3, rfl⟩ := M3.form
  obtain ⟨A4, n4, c4, rfl⟩ := M4.form
  have Ha := Lib.hid (Ha.out.step hb7)
  have Hb := Lib.hid (Hb.out.step hb7)
  have HX := Lib.hid (HX.out.step hb7)
  have HY := Lib.hid (HY.out.step hb7)
  have hw := hw.trans (hb7.mono hw.size)
  clear hb7 ho3 ho4 Rx Ry hd34 M1 M2 M3 M4 B1 B2 B3 B4 Y1 Y2 Y3 Y4 D12 D13 D14 D23 D24 D34 hl0 hl1 hl2 hl3 hs6
  have Hv := Lib.hid (And.intro hv0 (And.intro hv1 (And.intro hv2 hv3)))
  clear hv0 hv1 hv2 hv3
  have Rx := Lib.hid (HX.out.rd Ha.out Hn.out)
  go_wp2_with fail
  refine (same_true a a _ A n n (n + 3) c w7.heap.size w7.heap.size w7 Rx.out Ha.out rfl).mono ?_
  rintro e w8 ⟨rfl, hb8⟩
  have Hb := Lib.hid (Hb.out.step hb8)
  have HX := Lib.hid (HX.out.step hb8)
  have HY := Lib.hid (HY.out.step hb8)
  have HM := Lib.hid (HM.out.step hb8)
  have hw := hw.trans (hb8.mono hw.size)
  clear hb8 Rx
  have Ry := Lib.hid (HY.out.rd Hb.out Hn'.out)
  go_wp2_with fail
  refine (same_true b b _ A' n' n' (n' + 3) c' w8.heap.size w8.heap.size w8 Ry.out Hb.out rfl).mono ?_
  rintro e w9 ⟨rfl, hb9⟩
  have HX := Lib.hid (HX.out.step hb9)
  have HY := Lib.hid (HY.out.step hb9)
  have HM := Lib.hid (HM.out.step hb9)
  have hw := hw.trans (hb9.mono hw.size)
  clear hb9 Ry
  go_wp2_with fail
  refine (filled_any a gx n _ w9 HX.out Ha.out.1.symm Hn.out).mono ?_
  rintro e w10 ⟨rfl, hb10⟩
  have HX := Lib.hid (HX.out.step hb10)
  have HY := Lib.hid (HY.out.step hb10)
  have HM := Lib.hid (HM.out.step hb10)
  have hw := hw.trans (hb10.mono hw.size)
  clear hb10
  go_wp2_with fail
  refine (filled_any b gy n' _ w10 HY.out Hb.out.1.symm Hn'.out).mono ?_
  rintro e w11 ⟨rfl, hb11⟩
  have HX := Lib.hid (HX.out.step hb11)
  have HY := Lib.hid (HY.out.step hb11)
  have HM := Lib.hid (HM.out.step hb11)
  have hw := hw.trans (hb11.mono hw.size)
  clear hb11
  go_wp2_with fail
  have hxa := HX.out.lt
  have hya := HY.out.lt
  have HVa : Hid (∀ j, j < 4 → ∀ k, (vs j).ownBlock = some k → k < w11.heap.size) := Lib.hid fun j hj k hk => by
    obtain ⟨B, hm⟩ := HM.out j (by omega) hj
    exact (hm.lt k hk).2
  obtain ⟨ab, hab⟩ : ∃ ab, w11.heap.size = ab := ⟨_, rfl⟩
  have HB := Blk.new w11 45 #[.slice A1 n1 c1, .slice A2 n2 c2, .slice A3 n3 c3, .slice A4 n4 c4]
  have hb12 := (Below.refl w11.heap.size w11).alloc (Nat.le_refl _) (.cells #[.slice A1 n1 c1, .slice A2 n2 c2, .slice A3 n3 c3, .slice A4 n4 c4] 45)
  have HX := Lib.hid (HX.out.step hb12)
  have HY := Lib.hid (HY.out.step hb12)
  have HM := Lib.hid (HM.out.step hb12)
  have hw := hw.trans (hb12.mono hw.size)
  generalize w11.alloc (.cells #[.slice A1 n1 c1, .slice A2 n2 c2, .slice A3 n3 c3, .slice A4 n4 c4] 45) = W at *
  rw [hab] at HB hxa hya HVa ⊢
  have Hcell : Hid (∀ j, j < 4 → (#[Value.slice A1 n1 c1, .slice A2 n2 c2, .slice A3 n3 c3, .slice A4 n4 c4])[j]? = some (vs j)) := Lib.hid (by
    intro j hj
    obtain ⟨e0, e1, e2, e3⟩ := Hv.out
    match j, hj with
    | 0, _ => rw [e0]; rfl
    | 1, _ => rw [e1]; rfl
    | 2, _ => rw [e2]; rfl
    | 3, _ => rw [e3]; rfl)
  have HB := Lib.hid HB
  have Hw := Lib.hid hw
  clear hb12 hab hw
  obtain ⟨Z, hZ⟩ : ∃ Z, W.heap.size = Z := ⟨_, rfl⟩
  have HZ := Lib.hid hZ
  clear hZ
  obtain ⟨i0, hi, hz0, hz1, hz2⟩ := info_parts Try.info_pl
  have Hi := Lib.hid (And.intro hi (And.intro hz0 (And.intro hz1 hz2)))
  clear hi hz0 hz1 hz2
  go_loopw [15, 17, 74] (fun wv lv iv wr => ∃ (k : Nat) (wl : List Value), k ≤ 4 ∧ iv = .int .i64 k ∧ Hid (wr.ownsRow Z 45 1 wv k wl) ∧ Hid (∀ j, j < k → ∃ u, wl[j]? = some u ∧ Mine wr Z u (ls j)) ∧ Hid (wl.length = k) ∧ Hid (Below W.heap.size W wr)) (fun _ _ iv _ => 4 - (intOf iv).toNat)
  case atStart => exact ⟨0, [], by omega, rfl, Lib.hid (World.ownsRow_nil _ _ _ _), Lib.hid (fun j hj => absurd hj (by omega)), Lib.hid rfl, Lib.hid (Below.refl _ _)⟩
  case round =>
    obtain ⟨k, wl, hk, rfl, hwo, hwu, hwl, hbw⟩ := hrel
    by_cases hlt : k < 4
    · obtain ⟨Bk, hmk⟩ := (HM.out.step hbw.out) k (by omega) hlt
      obtain ⟨Ak, ck, hvk, hrk⟩ := hmk.rd
      obtain ⟨m, hm⟩ : ∃ m, (ls k).length = m := ⟨_, rfl⟩
      have hmle : m ≤ 1600 := by rw [← hm]; exact hmk.len
      rw [hm] at hvk hrk
      have hBB := HB.out.below hbw.out HB.out.lt
      have a0 := hBB.cell k
      rw [Hcell.out k hlt, hvk] at a0
      have al := hBB.lt
      have hk0 : (0 : Int) ≤ (k : Int) := by omega
      have hk4 : (k : Int) < 4 := by omega
      have Hrk := Lib.hid hrk
      have Hm := Lib.hid hm
      clear hrk hvk hmk hBB hm
      go_wp2_with fail
      refine (cloneP_any (ls k) Ak m ck wr Hrk.out (by omega)).mono ?_
      rintro e w12 ⟨u, rfl, hou, hb12⟩
      have hzw : Z ≤ wr.heap.size := by rw [← HZ.out]; exact hbw.out.size
      have hmu : Mine w12 Z u (ls k) := ⟨own_base hou hzw, by rw [Hm.out]; exact hmle, (HM.out k (by omega) hlt).elim fun _ h => h.txt⟩
      obtain ⟨Au, nu, cu, rfl⟩ := hmu.form
      have Hmu := Lib.hid hmu
      have hz12 : Z ≤ w12.heap.size := Nat.le_trans hzw hb12.size
      have Hwo := Lib.hid (own_below hwo.out hb12)
      have Hbw := Lib.hid (hbw.out.trans (hb12.mono hbw.out.size))
      have Hwu := Lib.hid (fun j (hj : j < k) => (hwu.out j hj).elim fun u h => (show ∃ u, wl[j]? = some u ∧ Mine w12 Z u (ls j) from ⟨u, h.1, h.2.step hb12⟩))
      clear hou hb12 hmu
      go_wp2_with (first | (at_builtin; go_loud (refine wpList_app1 w12 rfl (.tmp 78) (.tmp 81) 60 rfl Z 45 i0 _ 1 24 Try.underlying60 Hi.out.1 Hi.out.2.1 Hi.out.2.2.1 Hi.out.2.2.2 rfl (by omega) (by omega) u15 k wl rfl Hwo.out #[.slice Au nu cu] 1 rfl rfl (by simp [Value.oneCell']) (by omega) hz12 ?_); intro wv' w13 q1 q2 q3 q4))
      go_roundw
      case rel =>
        refine ⟨k + 1, wl ++ [.slice Au nu cu], by omega, by go_num, Lib.hid q1, Lib.hid fun j hj => ?_, Lib.hid (by simp [hwl.out]), Lib.hid (Hbw.out.trans (by rw [HZ.out]; exact q2))⟩
        by_cases hjk : j < k
        · obtain ⟨u, e1, e2⟩ := Hwu.out j hjk
          exact ⟨u, by rw [List.getElem?_append_left (by rw [hwl.out]; exact hjk)]; exact e1, e2.grown Hwo.out q3⟩
        · obtain rfl : j = k := by omega
          refine ⟨.slice Au nu cu, ?_, Hmu.out.grown Hwo.out q3⟩
          rw [List.getElem?_append_right (by rw [hwl.out]; exact Nat.le_refl _), hwl.out, Nat.sub_self]
          rfl
      case measure => simp [intOf]; omega
    · obtain rfl : k = 4 := by omega
      have HW : Hid (Wants wr Z u15 wl ls) := Lib.hid ⟨hwo.out, hwl.out, hwu.out⟩
      obtain ⟨gw, cw, rfl, hgwZ, _⟩ := World.ownsRow.form hwo.out (by omega)
      have hxZ : gx < Z := by have := HX.out.lt; have := HZ.out; omega
      have hyZ : gy < Z := by have := HY.out.lt; have := HZ.out; omega
      have haZ : ab < Z := by have := HB.out.lt; have := HZ.out; omega
      have HX := Lib.hid (HX.out.step hbw.out)
      have HY := Lib.hid (HY.out.step hbw.out)
      have HM := Lib.hid (HM.out.step hbw.out)
      have HB := Lib.hid (HB.out.below hbw.out HB.out.lt)
      have Hw := Lib.hid (Hw.out.trans (hbw.out.mono Hw.out.size))
      clear hwo hwu hwl hbw
      obtain ⟨W5, rfl⟩ : ∃ W5, W5 = wr := ⟨_, rfl⟩
      go_wp2_with fail
      refine (spoil_room (7, 0, ⟨#[]⟩) gx n _ _ W5 HX.out Hn.out).mono ?_
      rintro e w14 ⟨rfl, ho14⟩
      have HY := Lib.hid (HY.out.only ho14 (by show ¬ gy = gx; omega))
      have HM := Lib.hid (HM.out.only ho14 (fun j _ hj k hk => (HYS.out j hj k hk).1))
      have HB := Lib.hid (HB.out.only ho14 (by show ¬ ab = gx; omega))
      have HW := Lib.hid (HW.out.only ho14 (fun k hk => by show k < Z; rw [show k = gx from hk]; exact hxZ))
      have Hw := Lib.hid (Hw.out.trans (ho14.below Hw.out.size (fun k hk => by rw [show k = gx from hk]; exact hgx)))
      clear HX ho14
      go_wp2_with fail
      refine (spoil_room (8, 0, ⟨#[]⟩) gy n' _ _ w14 HY.out Hn'.out).mono ?_
      rintro e w15 ⟨rfl, ho15⟩
      have HM := Lib.hid (HM.out.only ho15 (fun j _ hj k hk => (HYS.out j hj k hk).2.1))
      have HB := Lib.hid (HB.out.only ho15 (by show ¬ ab = gy; omega))
      have HW := Lib.hid (HW.out.only ho15 (fun k hk => by show k < Z; rw [show k = gy from hk]; exact hyZ))
      have Hw := Lib.hid (Hw.out.trans (ho15.below Hw.out.size (fun k hk => by rw [show k = gy from hk]; exact hgy)))
      clear HY ho15
      go_wp2_with fail
      go_loopw [18, 19, 20, 92] (fun iv lv kv xv wr => ∃ (i : Nat), i ≤ 4 ∧ xv = .int .i64 i ∧ Hid (AllM wr vs ls i) ∧ Hid (Blk wr ab 45 #[.slice A1 n1 c1, .slice A2 n2 c2, .slice A3 n3 c3, .slice A4 n4 c4]) ∧ Hid (Wants wr Z (.slice (some ⟨gw, 0, none⟩) 4 cw) wl ls) ∧ Hid (Below w.heap.size w wr)) (fun _ _ _ xv _ => 4 - (intOf xv).toNat)
      case atStart => exact ⟨0, by omega, rfl, HM, HB, HW, Hw⟩
      case round =>
        obtain ⟨i, hi4, rfl, hM, hB, hW, hw⟩ := hrel
        by_cases hil : i < 4
        · obtain ⟨Bi, hmi⟩ := hM.out i (Nat.le_refl _) hil
          obtain ⟨Ai, ci, hvi, hri⟩ := hmi.rd
          obtain ⟨u, hu, hum⟩ := hW.out.2.2 i hil
          obtain ⟨Au, cu, rfl, hur⟩ := hum.rd
          obtain ⟨m, hm⟩ : ∃ m, (ls i).length = m := ⟨_, rfl⟩
          rw [hm] at hvi hri hur hu
          have a0 := hB.out.cell i
          rw [Hcell.out i hil, hvi] at a0
          have b0 := World.ownsRow.cellAt hW.out.1 i (by omega)
          rw [hu] at b0
          have al := hB.out.lt
          have bl : gw < wr.heap.size := (World.ownsRow.lt hW.out.1 gw rfl).2
          have hi0 : (0 : Int) ≤ (i : Int) := by omega
          have hi4 : (i : Int) < 4 := by omega
          have Hri := Lib.hid hri
          have Hur := Lib.hid hur
          have hown := hmi.own
          rw [hvi] at hown
          have Hown := Lib.hid hown
          have Hvi := Lib.hid hvi
          clear hri hur hum hmi hown hm hvi hu
          obtain ⟨W6, rfl⟩ : ∃ W6, W6 = wr := ⟨_, rfl⟩
          go_wp2_with fail
          refine (same_true (ls i) (ls i) Ai Au m m ci cu W6.heap.size W6.heap.size W6 Hri.out Hur.out rfl).mono ?_
          rintro e w16 ⟨rfl, hb16⟩
          have hM := Lib.hid (hM.out.step hb16)
          have hB := Lib.hid (hB.out.below hb16 hB.out.lt)
          have hW := Lib.hid (hW.out.step hb16)
          have hw := Lib.hid (hw.out.trans (hb16.mono hw.out.size))
          have Hown := Lib.hid (Hown.out.below hb16)
          clear hb16 a0 b0 al bl Hri Hur
          go_wp2_with fail
          refine (spoil_own (5, 0, ⟨#[]⟩) _ (ls i) Bi w16 Hown.out).mono ?_
          rintro e w17 ⟨rfl, ho17⟩
          rw [← Hvi.out] at ho17
          have hM : Hid (AllM w17 vs ls (i + 1)) := Lib.hid fun j h1 h2 => by
            obtain ⟨B, hmj⟩ := hM.out j (by omega) h2
            exact ⟨B, hmj.only ho17 fun k hk hs => HD.out i j (by omega) h2 k hs hk⟩
          have hB := Lib.hid (hB.out.only ho17 (fun hs => absurd (HVa.out i hil ab hs) (Nat.lt_irrefl _)))
          have hW := Lib.hid (hW.out.only ho17 (fun k hk => Nat.lt_trans (HVa.out i hil k hk) haZ))
          have hw := Lib.hid (hw.out.trans (ho17.below hw.out.size (fun k hk => (HYS.out i hil k hk).2.2)))
          clear ho17 Hown
          go_wp2_with fail
          go_loopw [20] (fun kv wr => ∃ (q : Nat), i + 1 ≤ q ∧ q ≤ 4 ∧ kv = .int .i64 q ∧ Hid (AllM wr vs ls (i + 1)) ∧ Hid (Blk wr ab 45 #[.slice A1 n1 c1, .slice A2 n2 c2, .slice A3 n3 c3, .slice A4 n4 c4]) ∧ Hid (Wants wr Z (.slice (some ⟨gw, 0, none⟩) 4 cw) wl ls) ∧ Hid (Below w.heap.size w wr)) (fun kv _ => 4 - (intOf kv).toNat)
          case atStart => exact ⟨i + 1, by omega, by omega, by go_num, hM, hB, hW, hw⟩
          case round =>
            obtain ⟨q, hq1, hq4, rfl, hM, hB, hW, hw⟩ := hrel
            by_cases hql : q < 4
            · obtain ⟨Bq, hmq⟩ := hM.out q hq1 hql
              obtain ⟨Aq, cq, hvq, hrq⟩ := hmq.rd
              obtain ⟨u, hu, hum⟩ := hW.out.2.2 q hql
              obtain ⟨Au, cu, rfl, hur⟩ := hum.rd
              obtain ⟨m, hm⟩ : ∃ m, (ls q).length = m := ⟨_, rfl⟩
              rw [hm] at hvq hrq hur hu
              have a0 := hB.out.cell q
              rw [Hcell.out q hql, hvq] at a0
              have b0 := World.ownsRow.cellAt hW.out.1 q (by omega)
              rw [hu] at b0
              have al := hB.out.lt
              have bl : gw < wr.heap.size := (World.ownsRow.lt hW.out.1 gw rfl).2
              have hq0 : (0 : Int) ≤ (q : Int) := by omega
              have hq5 : (q : Int) < 4 := by omega
              have Hrq := Lib.hid hrq
              have Hur := Lib.hid hur
              clear hrq hur hum hmq hm hvq hu
              obtain ⟨W7, rfl⟩ : ∃ W7, W7 = wr := ⟨_, rfl⟩
              have KeepS := Lib.hid (fun (w' : World) (h : Below W7.heap.size W7 w') => (⟨h, by rw [h.cell al]; exact a0, by rw [h.cell bl]; exact b0, Nat.lt_of_lt_of_le al h.size, Nat.lt_of_lt_of_le bl h.size⟩ : Below W7.heap.size W7 w' ∧ w'.cell? ⟨ab, q, none⟩ = some (.slice Aq m cq) ∧ w'.cell? ⟨gw, q, none⟩ = some (.slice Au m cu) ∧ ab < w'.heap.size ∧ gw < w'.heap.size))
              have G := Lib.hid (fun (w' : World) (h : Below W7.heap.size W7 w' ∧ w'.cell? ⟨ab, q, none⟩ = some (.slice Aq m cq) ∧ w'.cell? ⟨gw, q, none⟩ = some (.slice Au m cu) ∧ ab < w'.heap.size ∧ gw < w'.heap.size) => (same_true (ls q) (ls q) Aq Au m m cq cu W7.heap.size W7.heap.size w' (Hrq.out.below h.1) (Hur.out.below h.1) rfl).mono (R' := fun e w'' => e = .returned (.bool true) ∧ (Below W7.heap.size W7 w'' ∧ w''.cell? ⟨ab, q, none⟩ = some (.slice Aq m cq) ∧ w''.cell? ⟨gw, q, none⟩ = some (.slice Au m cu) ∧ ab < w''.heap.size ∧ gw < w''.heap.size)) (fun e w'' hh => ⟨hh.1, KeepS.out _ (h.1.trans (hh.2.mono h.1.size))⟩))
              have hS7 := KeepS.out W7 (Below.refl _ _)
              clear a0 b0 al bl
              go_wp2_with fail
              go_region_held3 (fun w' => Below W7.heap.size W7 w' ∧ w'.cell? ⟨ab, q, none⟩ = some (.slice Aq m cq) ∧ w'.cell? ⟨gw, q, none⟩ = some (.slice Au m cu) ∧ ab < w'.heap.size ∧ gw < w'.heap.size) (first | with_reducible assumption | exact KeepS.out _ (Below.drew (Below.refl _ _)) | exact KeepS.out _ (by assumption) | exact KeepS.out _ (Below.drew (by assumption)) | (go_split_ands; exact KeepS.out _ (by assumption)))
                ((go_at_call 29; with_reducible refine (G.out _ (by assumption)).mono ?_; rintro e w9 ⟨rfl, hS9⟩))
              go_wp2_with fail
              have hS9' : Below W7.heap.size W7 w9 ∧ w9.cell? ⟨ab, q, none⟩ = some (.slice Aq m cq) ∧ w9.cell? ⟨gw, q, none⟩ = some (.slice Au m cu) ∧ ab < w9.heap.size ∧ gw < w9.heap.size := by assumption
              go_roundw
              case rel => exact ⟨q + 1, by omega, by omega, by go_num, Lib.hid (hM.out.step hS9'.1), Lib.hid (hB.out.below hS9'.1 hB.out.lt), Lib.hid (hW.out.step hS9'.1), Lib.hid (hw.out.trans (hS9'.1.mono hw.out.size))⟩
              case measure => simp [intOf]; omega
            · obtain rfl : q = 4 := by omega
              go_wp2_with fail
              go_roundw
              case rel => exact ⟨i + 1, by omega, by go_num, hM, hB, hW, hw⟩
              case measure => simp [intOf]; omega
        · obtain rfl : i = 4 := by omega
          go_wp2_with fail
          refine (put_any ⟨#[97]⟩ (by decide) wr).mono ?_
          rintro e w20 ⟨Ap, rfl, hP, hb20⟩
          have hw := Lib.hid (hw.out.trans (hb20.mono hw.out.size))
          clear hM hB hW hb20
          have hnc := norm_any [(2, 0, ⟨#[97]⟩)] Ap 1 1 w20.heap.size w20 hP (Nat.le_refl _)
          rw [pa_e, pa_l] at hnc
          have Hnc := Lib.hid hnc
          clear hnc hP
          go_wp2_with fail
          refine Hnc.out.mono ?_
          rintro e w21 ⟨vn, rfl, hvn, hb21⟩
          obtain ⟨An, cn, hve, hrn⟩ := hvn.rd (by intro p hp; rw [List.mem_singleton] at hp; subst hp; decide)
          have hve : vn = .slice An 1 cn := hve
          subst hve
          have Hrn : Hid (RdP w21 w21.heap.size An 1 cn [(2, 0, ⟨#[97]⟩)]) := Lib.hid hrn
          have hw := Lib.hid (hw.out.trans (hb21.mono hw.out.size))
          clear hvn hrn hb21
          go_wp2_with fail
          refine (put_any ⟨#[97]⟩ (by decide) w21).mono ?_
          rintro e w22 ⟨Aq, rfl, hP, hb22⟩
          have HP := Lib.hid hP
          have Hrn := Lib.hid (Hrn.out.step hb22)
          have hw := Lib.hid (hw.out.trans (hb22.mono hw.out.size))
          clear hP hb22
          go_wp2_with fail
          refine (same_true _ _ An Aq 1 1 cn 1 w22.heap.size w22.heap.size w22 Hrn.out HP.out rfl).mono ?_
          rintro e w23 ⟨rfl, hb23⟩
          have hw := Lib.hid (hw.out.trans (hb23.mono hw.out.size))
          clear hb23
          go_wp2_with fail
          go_ret
          exact ⟨rfl, hw.out⟩
end Go.Proofs.Ytcclcgapcnjcdaa
