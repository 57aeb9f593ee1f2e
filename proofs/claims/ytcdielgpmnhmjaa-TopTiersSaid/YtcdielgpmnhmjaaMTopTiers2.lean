/- Contract of tier.Build. Blocks that lie one behind the other, and where a tier's blocks are found. Contracts of part.Idle and revs.Between. -/
import Derived.Test.YtcdielgpmnhmjaaMTopTiers1
import Derived.Test.YtcdielgpmnhmjaaK6
import Derived.Test.YtcdielgpmnhmjaaK10
import Derived.Test.YtcdielgpmnhmjaaK12
import Derived.Test.YtcdielgpmnhmjaaK20
namespace Go.Proofs.Ytcdielgpmnhmjaa
open Go.ChangeShapes Go.WideShapes Go.RowKit
set_option linter.unusedVariables false
set_option linter.unusedSimpArgs false
set_option maxRecDepth 100000
set_option maxHeartbeats 4000000

theorem txr_all : ∀ (l : List Rv) (s : ByteArray), txr s l = 0 → ∀ r ∈ l, chk r.2.2 = 0
  | [], _, _, r, h => by simp at h
  | q :: l, s, h, r, hr => by
    have h1 := txr_step h
    by_cases h2 : oneE q = 0
    · rcases List.mem_cons.1 hr with rfl | hr
      · exact one_good h2
      · by_cases h3 : doE q.2.2 s = 0
        · exact txr_all l _ (h1.2.2 h2 h3) r hr
        · exact absurd (h1.2.1 h2 h3) (fun e => h3 e.symm)
    · exact absurd (h1.1 h2) (fun e => h2 e.symm)
theorem Try.info_ppl : (Try.prog.info? 90).map (fun i => (i.zero, i.size, i.bytes)) = some (some (.slice none 0 0), 1, 24) := by kernel_rfl
theorem Inc.nil : Inc [] := List.Pairwise.nil
theorem OwnRow.nil (w : World) (B : Nat) : OwnRow w B (.slice none 0 0) [] [] := ⟨World.ownsRow_nil _ _ _ _, Deltas.nil _ _⟩
/-- what lies in a row's cell -/
theorem OwnRow.at_ {w : World} {B g n c : Nat} {us : List Value} {ls : List (List Pt)} (h : OwnRow w B (.slice (some ⟨g, 0, none⟩) n c) us ls) (j : Nat) (hj : j < ls.length) :
    ∃ A1 n1 c1, us[j]? = some (.slice A1 n1 c1) ∧ w.cell? ⟨g, j, none⟩ = some (.slice A1 n1 c1) ∧ RdP w w.heap.size A1 n1 c1 ls[j] ∧ Mine w B (.slice A1 n1 c1) ls[j] := by
  have hl := h.2.len
  have hn : n = us.length := by
    rcases h.1.2 with ⟨h0, _⟩ | ⟨g', cap, cur, h0, _⟩ <;> simp at h0
    · exact h0.2.1
  subst hn
  have hc := World.ownsRow.cellAt h.1 j (by omega)
  have h1 : us[j]? = some (us[j]'(by omega)) := List.getElem?_eq_getElem (by omega)
  have h2 : ls[j]? = some ls[j] := List.getElem?_eq_getElem hj
  have hm := h.2.at_ j _ _ h1 h2
  obtain ⟨A1, c1, e, hr⟩ := hm.rd
  rw [h1] at hc
  rw [e] at hc hm h1
  exact ⟨A1, _, c1, h1, hc, hr, hm⟩
theorem OwnRow.snoc {w w' : World} {B : Nat} {v v' u : Value} {us : List Value} {ls : List (List Pt)} {l : List Pt} (h : OwnRow w B v us ls) (hm : Mine w B u l) (ho : w'.ownsRow B 25 1 v' (us.length + 1) (us ++ [u])) (hg : w.grownBy w' v.ownBlock) :
    OwnRow w' B v' (us ++ [u]) (ls ++ [l]) :=
  ⟨by rw [List.length_append]; exact ho, (h.2.grown h.1 hg (by decide)).snoc (hm.grown h.1 hg)⟩
theorem OwnRow.form {w : World} {B : Nat} {v : Value} {us : List Value} {ls : List (List Pt)} (h : OwnRow w B v us ls) : ∃ A c, v = .slice A ls.length c := by
  have hl := h.2.len
  rcases h.1.2 with ⟨rfl, h0⟩ | ⟨g, cap, cur, rfl, _⟩
  · exact ⟨none, 0, by rw [← hl, h0]⟩
  · exact ⟨_, cap, by rw [← hl]⟩
theorem OwnTier.lt {w : World} {B : Nat} {v : Value} {rs : List Value} {uss : List (List Value)} {lss : List (List (List Pt))} (h : OwnTier w B v rs uss lss) : ∀ u ∈ uss.flatten, ∀ k, u.ownBlock = some k → B ≤ k ∧ k < w.heap.size := by
  intro u hu k hk
  obtain ⟨us, h1, h2⟩ := List.mem_flatten.1 hu
  obtain ⟨j, hj, rfl⟩ := List.getElem_of_mem h1
  have e1 : rs[j]? = some (rs[j]'(by rw [h.len1, ← h.len2]; exact hj)) := List.getElem?_eq_getElem _
  have e2 : uss[j]? = some uss[j] := List.getElem?_eq_getElem hj
  have e3 : lss[j]? = some (lss[j]'(by rw [← h.len2]; exact hj)) := List.getElem?_eq_getElem _
  exact (h.at_ j _ _ _ e1 e2 e3).2.lt u h2 k hk
theorem Inc.append {us vs : List Value} {N : Nat} (h : Inc us) (h' : Inc vs) (h1 : ∀ v ∈ us, ∀ k, v.ownBlock = some k → k < N) (h2 : ∀ v ∈ vs, ∀ k, v.ownBlock = some k → N ≤ k) : Inc (us ++ vs) := by
  unfold Inc
  rw [List.pairwise_append]
  refine ⟨h, h', fun a ha b hb p q hp hq => ?_⟩
  have := h1 a ha p hp
  have := h2 b hb q hq
  omega
def slen : Value → Nat
  | .slice _ m _ => m
  | _ => 0
theorem tiersF_nil : ∀ f, tiersF f [] = []
  | 0 => rfl
  | f + 1 => rfl
theorem build_err (base : ByteArray) (l : List Rv) (A : Option Addr) (n c B : Nat) (w : World) (h : RdR w B A n c l) (hB : B ≤ w.heap.size) (hbs : base.size ≤ 9223372036854775807) (he : txE base l ≠ 0) :
    Calls Try.prog 45 #[.string base, .slice A n c] w fun e w' => e = .returned (.tuple #[.slice none 0 0, .int .i64 (txE base l)]) ∧ Below w.heap.size w w' := by
  have hc := rcheck_any base l A n c B w h hB hbs
  have Hc := Lib.hid hc
  clear hc h
  have hne : (txE base l != 0) = true := by simpa using he
  generalize txE base l = E at *
  go_enter Try.func45, Try.ntmps45
  go_wp2_with fail
  refine Hc.out.mono ?_
  rintro e w1 ⟨rfl, hb⟩
  go_wp2_with fail
  go_ret2
  exact ⟨rfl, hb⟩
theorem build_good (base : ByteArray) (l : List Rv) (A : Option Addr) (n c B : Nat) (w : World) (h : RdR w B A n c l) (hB : B ≤ w.heap.size) (he : txE base l = 0) :
    Calls Try.prog 45 #[.string base, .slice A n c] w fun e w' => ∃ v rs uss, e = .returned (.tuple #[v, .int .i64 0]) ∧ OwnTier w' w.heap.size v rs uss (tiersL l) ∧ Inc uss.flatten ∧ Below w.heap.size w w' := by
  have hp := txE_parts he
  have hc := rcheck_any base l A n c B w h hB (by omega)
  rw [he] at hc
  have Hc := Lib.hid hc
  have hall := txr_all l base hp.2.2
  have H := Lib.hid h
  have hn64 : (n : Int) ≤ 64 := by have := hp.2.1; have := h.1; omega
  have Hp := Lib.hid hp
  have Hall := Lib.hid hall
  have He := Lib.hid he
  have hlen := h.1
  have Hlen := Lib.hid hlen
  clear hc h hall hp he hlen
  obtain ⟨i0, hi, hz0, hz1, hz2⟩ := info_parts Try.info_pl
  have Hi := Lib.hid (And.intro hi (And.intro hz0 (And.intro hz1 hz2)))
  obtain ⟨i1, hi, hz0, hz1, hz2⟩ := info_parts Try.info_ppl
  have Hi1 := Lib.hid (And.intro hi (And.intro hz0 (And.intro hz1 hz2)))
  clear hi hz0 hz1 hz2
  go_enter Try.func45, Try.ntmps45
  go_wp2_with fail
  refine Hc.out.mono ?_
  rintro e w1 ⟨rfl, hb1⟩
  have hw1 := hb1.size
  have Hb1 := Lib.hid hb1
  clear hb1 Hc
  go_wp2_with fail
  go_loopw [7, 9, 23] (fun rv pv iv wr => ∃ (k : Nat) (us : List Value), k ≤ n ∧ iv = .int .i64 k ∧ Hid (us.length = k) ∧ Hid (OwnRow wr w.heap.size rv us ((l.take k).map fun r => r.2.2)) ∧ Hid (Inc us) ∧ Hid (Below w.heap.size w wr)) (fun _ _ iv _ => 64 - (intOf iv).toNat)
  case atStart => exact ⟨0, [], by omega, rfl, Lib.hid rfl, Lib.hid (OwnRow.nil _ _), Lib.hid Inc.nil, Hb1⟩
  case round =>
    obtain ⟨k, us, hk, rfl, hul, hro, hin, hbw⟩ := hrel
    by_cases hlt : k < n
    · have hkl : k < l.length := by have := Hlen.out; omega
      obtain ⟨b, o, A1, n1, d1, rfl, hb, c0, c1_, c2, hrd⟩ := (H.out.below (hbw.out.mono hB)).at_ k hlt
      have hck := Hall.out l[k] (List.getElem_mem hkl)
      obtain ⟨r, hr⟩ : ∃ r, r = l[k] := ⟨_, rfl⟩
      rw [← hr] at c0 c1_ hrd hck
      have Hr := Lib.hid hr
      clear hr
      have hk0 : (0 : Int) ≤ (k : Int) := by omega
      have hkn : (k : Int) < (n : Int) := by omega
      have hgl : b < wr.heap.size := by have := hbw.out.size; omega
      have hsm := small_of (.inl hck)
      have Hsm := Lib.hid hsm
      obtain ⟨ra, rb, d⟩ := r
      simp only at c0 c1_ c2 hrd hck
      have hw1 := hbw.out.alloc hbw.out.size (.cells #[.int .i64 ra, .int .i64 rb, .slice A1 n1 d1] 27)
      have hpb := Blk.new wr 27 #[.int .i64 ra, .int .i64 rb, .slice A1 n1 d1]
      have hro1 := hro.out.step ((Below.refl wr.heap.size wr).alloc (Nat.le_refl _) (.cells #[.int .i64 ra, .int .i64 rb, .slice A1 n1 d1] 27))
      have hrd1 := hrd.alloc (by have := hbw.out.size; omega) (.cells #[.int .i64 ra, .int .i64 rb, .slice A1 n1 d1] 27)
      have p2 := hpb.cell 2
      have pl := hpb.lt
      have Hrd := Lib.hid hrd1
      have Hw1 := Lib.hid hw1
      have Hro := Lib.hid hro1
      have hcl : ([] : List Pt).length + n1 ≤ 4000000 := by have h1 := Hsm.out.1; have h2 : n1 = d.length := hrd.1; simp only [List.length_nil]; show 0 + n1 ≤ _; rw [h2]; have h3 : d.length ≤ 1600 := h1; omega
      have hnz : w.heap.size ≤ (wr.alloc (.cells #[.int .i64 ra, .int .i64 rb, .slice A1 n1 d1] 27)).heap.size := hw1.size
      clear hpb hrd hrd1 hw1 hro1 hsm hck
      have hkl8 : us.length ≤ 100000000 := by rw [hul.out]; omega
      go_wp2_with (first
        | (at_builtin; go_loud (refine wpList_app_partsC _ rfl (.const (.slice none 0 0)) (.tmp 29) rfl (wr.alloc (.cells #[.int .i64 ra, .int .i64 rb, .slice A1 n1 d1] 27)).heap.size _ [] rfl (OwnP.nil _ _) A1 n1 d1 B d rfl Hrd.out hcl (Nat.le_refl _) ?_; intro v4 w4 q1 q2; have q1 : OwnP w4 (wr.alloc (.cells #[.int .i64 ra, .int .i64 rb, .slice A1 n1 d1] 27)).heap.size v4 d := q1; obtain ⟨A4, c4, rfl⟩ := q1.form_ (n := d.length) rfl; have q3 := Lib.hid (Hro.out.step q2); have q4 : Hid (Mine w4 (wr.alloc (.cells #[.int .i64 ra, .int .i64 rb, .slice A1 n1 d1] 27)).heap.size (.slice A4 d.length c4) d) := Lib.hid ⟨q1, Hsm.out.1, Hsm.out.2⟩; have q5 := Lib.hid (Hw1.out.trans (q2.mono Hw1.out.size)); have q6 : w.heap.size ≤ w4.heap.size := q5.out.size; clear q1 q2))
        | (at_builtin; go_loud (refine wpList_app1 w4 rfl (.tmp 27) (.tmp 31) 90 rfl w.heap.size 25 i0 _ 1 24 Try.underlying90 Hi.out.1 Hi.out.2.1 Hi.out.2.2.1 Hi.out.2.2.2 rfl (by omega) (by omega) u7 us.length us rfl q3.out.1 #[.slice A4 d.length c4] 1 rfl rfl (by simp [Value.oneCell']) hkl8 q6 ?_; intro v5 w5 q7 q8 q9 q10)))
      have hfin : OwnRow w5 w.heap.size v5 (us ++ [.slice A4 d.length c4]) ((l.take k).map (fun r => r.2.2) ++ [d]) := q3.out.snoc (⟨own_base q4.out.own hnz, q4.out.len, q4.out.txt⟩) q7 q9
      have hfi2 : Inc (us ++ [.slice A4 d.length c4]) := by
        refine hin.out.snoc (N := (wr.alloc (.cells #[.int .i64 ra, .int .i64 rb, .slice A1 n1 d1] 27)).heap.size) (fun v hv p hp => ?_) fun p hp => (q4.out.lt p hp).1
        exact (Hro.out.2.lt v hv p hp).2
      have htk : (l.take (k + 1)).map (fun r => r.2.2) = (l.take k).map (fun r => r.2.2) ++ [d] := by
        rw [List.take_succ_eq_append_getElem hkl, List.map_append, ← Hr.out]
        rfl
      have Hfin : Hid (OwnRow w5 w.heap.size v5 (us ++ [.slice A4 d.length c4]) ((l.take (k + 1)).map fun r => r.2.2)) := Lib.hid (by rw [htk]; exact hfin)
      have Hfi2 := Lib.hid hfi2
      have hw5 := Lib.hid (q5.out.trans q8)
      clear hfin hfi2 htk q3 q4 q5 q7 q8 q9 q10
      go_roundw
      case rel => exact ⟨k + 1, us ++ [.slice A4 d.length c4], by omega, by go_num, Lib.hid (by rw [List.length_append, hul.out]; rfl), Hfin, Hfi2, hw5⟩
      case measure => simp [intOf]; omega
    · obtain rfl : k = n := by omega
      have htk : (l.take k).map (fun r => r.2.2) = l.map (fun r => r.2.2) := by rw [List.take_of_length_le (by have := Hlen.out; omega)]
      have hro2 := hro.out
      rw [htk] at hro2
      obtain ⟨Ar, cr, rfl⟩ := hro2.form
      obtain ⟨m0, hm0⟩ : ∃ m0, (l.map (fun r => r.2.2)).length = m0 := ⟨_, rfl⟩
      have hm64 : m0 ≤ 64 := by rw [← hm0, List.length_map]; have := Hlen.out; omega
      rw [hm0] at hro2 ⊢
      have Hro := Lib.hid hro2
      have Hm0 := Lib.hid hm0
      obtain ⟨W2, rfl⟩ : ∃ W2, W2 = wr := ⟨_, rfl⟩
      clear hro hro2 htk hul hm0
      go_wp2_with fail
      go_loopw [7, 10, 11, 12, 13, 14] (fun rv ov nv iv dv ev wr => ∃ (m f p : Nat) (A : Option Addr) (c : Nat) (us rs : List Value) (uss : List (List Value)) (ls : List (List Pt)) (lss : List (List (List Pt))), rv = .slice A m c ∧ m ≤ 64 ∧ Hid (ls.length = m) ∧ Hid (ls = lvl (l.map fun r => r.2.2) p) ∧ Hid (m < 2 ^ f) ∧ Hid (lss ++ tiersF f ls = tiersL l) ∧ Hid (OwnRow wr w.heap.size rv us ls) ∧ Hid (OwnTier wr w.heap.size ov rs uss lss) ∧ Hid (rs.length ≤ 8) ∧ Hid (rs.length + f = 8) ∧ Hid (Inc (uss.flatten ++ us)) ∧ Hid (Below w.heap.size w wr)) (fun rv _ _ _ _ _ _ => slen rv)
      case atStart => exact ⟨m0, 8, 0, Ar, cr, us, [], [], _, [], rfl, hm64, Hm0, Lib.hid rfl, Lib.hid (Nat.lt_of_le_of_lt hm64 (by decide)), Lib.hid rfl, Hro, Lib.hid (OwnTier.nil _ _), Lib.hid (by simp), Lib.hid rfl, hin, hbw⟩
      case round =>
        clear Hro Hm0 hm64 hin hbw
        obtain ⟨m, f, p, A3, c3, us3, rs, uss, ls, lss, rfl, hm64, hlm, hlv, hmf, htf, hro, hti, hr8, hrf, hin, hbw⟩ := hrel
        by_cases hm0 : m = 0
        · subst hm0
          have hls : ls = [] := List.eq_nil_of_length_eq_zero hlm.out
          have hres : lss = tiersL l := by rw [← htf.out, hls, tiersF_nil, List.append_nil]
          have hin2 : Inc uss.flatten := (List.pairwise_append.1 hin.out).1
          have Hin2 := Lib.hid hin2
          have Hres := Lib.hid hres
          clear hin2 hres hls hro
          go_wp2_with fail
          go_ret2
          exact ⟨_, rs, uss, rfl, by rw [← Hres.out]; exact hti.out, Hin2.out, hbw.out⟩
        · obtain ⟨g, cc, hgf, _⟩ := World.ownsRow.form hro.out.1 (by rw [hro.out.2.len, hlm.out]; omega)
          obtain rfl : A3 = some ⟨g, 0, none⟩ := by injection hgf
          clear hgf
          have hmp : (0 : Int) < (m : Int) := by omega
          have hf1 : ∃ f1, f = f1 + 1 := by
            have := hmf.out
            cases f with
            | zero => simp at this; omega
            | succ f1 => exact ⟨f1, rfl⟩
          obtain ⟨f1, rfl⟩ := hf1
          have hrl : rs.length ≤ 100000000 := by have := hr8.out; omega
          have hwl : w.heap.size ≤ wr.heap.size := hbw.out.size
          obtain ⟨W3, rfl⟩ : ∃ W3, W3 = wr := ⟨_, rfl⟩
          go_wp2_with (first | (at_builtin; go_loud (refine wpList_app1 W3 rfl (.tmp 37) (.tmp 39) 79 rfl w.heap.size 90 i1 _ 1 24 Try.underlying79 Hi1.out.1 Hi1.out.2.1 Hi1.out.2.2.1 Hi1.out.2.2.2 rfl (by omega) (by omega) u10 rs.length rs rfl hti.out.own #[.slice (some ⟨g, 0, none⟩) m c3] 1 rfl rfl (by simp [Value.oneCell']) hrl hwl ?_; intro v5 w5 q7 q8 q9 q10)))
          have Hti := Lib.hid (hti.out.snoc hro.out q7 q9)
          have Hro := Lib.hid (hro.out.grown hti.out.own q9 (by decide) (by decide))
          have Hin : Hid (Inc (uss ++ [us3]).flatten) := Lib.hid (by simpa using hin.out)
          have Hbw := Lib.hid (hbw.out.trans q8)
          have htf2 : (lss ++ [ls]) ++ tiersF f1 (nxt ls) = tiersL l := by
            have := htf.out
            rw [tiersF, if_neg (by rw [hlm.out]; exact hm0)] at this
            simpa using this
          have Htf := Lib.hid htf2
          have Hrf : Hid ((rs ++ [Value.slice (some ⟨g, 0, none⟩) m c3]).length + f1 = 8) := Lib.hid (by have := hrf.out; simp; omega)
          clear q7 q8 q9 q10 hti hro hin hbw htf htf2 hrf hr8 hrl hwl
          obtain ⟨N, hN⟩ : ∃ N, w5.heap.size = N := ⟨_, rfl⟩
          have HN := Lib.hid hN
          have Hti0 := Hti
          clear hN
          go_loopw [11, 12, 13, 14] (fun nv iv dv ev wr => ∃ (k j : Nat) (us : List Value), j ≤ m ∧ iv = .int .i64 j ∧ Hid (j = 2 * k) ∧ Hid (us.length = k) ∧ Hid (OwnRow wr N nv us ((nxt ls).take k)) ∧ Hid (Inc us) ∧ Hid (Below w5.heap.size w5 wr)) (fun _ iv _ _ _ => 65 - (intOf iv).toNat)
          case atStart => exact ⟨0, 0, [], by omega, rfl, Lib.hid rfl, Lib.hid rfl, Lib.hid (OwnRow.nil _ _), Lib.hid Inc.nil, Lib.hid (Below.refl _ _)⟩
          case round =>
            obtain ⟨k, j, us, hjm, rfl, hjk, hul, hnr, hni, hnb⟩ := hrel
            by_cases hlt : j + 1 < m
            · have hr3 := Hro.out.step hnb.out
              have hjl : j < ls.length := by rw [hlm.out]; omega
              have hjl1 : j + 1 < ls.length := by rw [hlm.out]; omega
              obtain ⟨A1, n1, c1, b1, a1, r1, m1⟩ := hr3.at_ j hjl
              obtain ⟨A2, n2, c2, b2, a2, r2, m2⟩ := hr3.at_ (j + 1) hjl1
              obtain ⟨j1, hj1⟩ : ∃ j1, j + 1 = j1 := ⟨_, rfl⟩
              have hgl : g < wr.heap.size := (World.ownsRow.lt hr3.1 g rfl).2
              obtain ⟨x, hx⟩ : ∃ x, ls[j] = x := ⟨_, rfl⟩
              obtain ⟨y, hy⟩ : ∃ y, ls[j + 1] = y := ⟨_, rfl⟩
              rw [hx] at r1
              rw [hy] at r2
              have g1 : ls[2 * k]? = some x := by rw [← hjk.out, ← hx]; exact List.getElem?_eq_getElem hjl
              have g2 : ls[2 * k + 1]? = some y := by rw [← hjk.out, ← hy]; exact List.getElem?_eq_getElem hjl1
              have hce : compE x y = 0 := lev_comp He.out p k x y (by rw [← hlv.out]; exact g1) (by rw [← hlv.out]; exact g2)
              have hnx := nxt_at ls k x y g1 g2
              have Hnx := Lib.hid hnx
              have Hr1 := Lib.hid r1
              have Hr2 := Lib.hid r2
              have Hce := Lib.hid hce
              obtain ⟨W5, rfl⟩ : ∃ W5, W5 = wr := ⟨_, rfl⟩
              rw [hj1] at a2
              have KeepS := Lib.hid (fun (w' : World) (h : Below W5.heap.size W5 w') => (⟨h, by rw [h.cell hgl]; exact a1, by rw [h.cell hgl]; exact a2, Nat.lt_of_lt_of_le hgl h.size⟩ : (Below W5.heap.size W5 w' ∧ w'.cell? ⟨g, j, none⟩ = some (.slice A1 n1 c1) ∧ w'.cell? ⟨g, j1, none⟩ = some (.slice A2 n2 c2) ∧ g < w'.heap.size)))
              have G := Lib.hid (fun (w' : World) (h : (Below W5.heap.size W5 w' ∧ w'.cell? ⟨g, j, none⟩ = some (.slice A1 n1 c1) ∧ w'.cell? ⟨g, j1, none⟩ = some (.slice A2 n2 c2) ∧ g < w'.heap.size)) => (comp_any x y A1 A2 n1 n2 c1 c2 w' (Hr1.out.step h.1) (Hr2.out.step h.1)).mono (R' := fun e w'' => ∃ A9 n9 c9, e = .returned (.tuple #[.slice A9 n9 c9, .int .i64 0]) ∧ Mine w'' W5.heap.size (.slice A9 n9 c9) (compL x y) ∧ (Below W5.heap.size W5 w'' ∧ w''.cell? ⟨g, j, none⟩ = some (.slice A1 n1 c1) ∧ w''.cell? ⟨g, j1, none⟩ = some (.slice A2 n2 c2) ∧ g < w''.heap.size)) (by
                rintro e w'' ⟨v, rfl, ho, hb⟩
                rw [Hce.out]
                have hm := Mine.of ho (small_comp x y)
                obtain ⟨A9, n9, c9, rfl⟩ := hm.form
                exact ⟨A9, n9, c9, rfl, ⟨own_base hm.own h.1.size, hm.len, hm.txt⟩, KeepS.out _ (h.1.trans (hb.mono h.1.size))⟩))
              have hS5 := KeepS.out W5 (Below.refl _ _)
              have hwr : IntKind.i64.wrap ((j : Int) + 1) = (j1 : Int) := by rw [show (j : Int) + 1 = (j1 : Int) by omega]; exact IntWalk.i64_in _ (by omega)
              have htn : ((j : Int)).toNat = j := by omega
              have htn1 : ((j1 : Int)).toNat = j1 := by omega
              have hlt1 : (j : Int) + 1 < (m : Int) := by omega
              have hlt2 : (j1 : Int) < (m : Int) := by omega
              have hlt3 : (j : Int) < (m : Int) := by omega
              have hj0 : (0 : Int) ≤ (j : Int) := by omega
              have hj10 : (0 : Int) ≤ (j1 : Int) := by omega
              have Hj1 := Lib.hid hj1
              have HN5 : N ≤ W5.heap.size := by rw [← HN.out]; exact hnb.out.size
              have Hul8 : us.length ≤ 100000000 := by rw [hul.out]; have := hjk.out; omega
              clear a1 a2 r1 r2 m1 m2 b1 b2 hce hnx g1 g2 hx hy hr3 hjl hjl1 hgl hlt hj1
              go_wp2_with fail
              go_region_held3 (fun w' => (Below W5.heap.size W5 w' ∧ w'.cell? ⟨g, j, none⟩ = some (.slice A1 n1 c1) ∧ w'.cell? ⟨g, j1, none⟩ = some (.slice A2 n2 c2) ∧ g < w'.heap.size)) (first | with_reducible assumption | exact KeepS.out _ (Below.drew (Below.refl _ _)) | exact KeepS.out _ (by assumption) | exact KeepS.out _ (Below.drew (by assumption)) | (go_split_ands; exact KeepS.out _ (by assumption)))
                ((go_at_call 89; with_reducible refine (G.out _ (by assumption)).mono ?_; rintro e w9 ⟨A9, n9, c9, rfl, hM9, hS9⟩))
              all_goals
                have hS9' : (Below W5.heap.size W5 w9 ∧ w9.cell? ⟨g, j, none⟩ = some (.slice A1 n1 c1) ∧ w9.cell? ⟨g, j1, none⟩ = some (.slice A2 n2 c2) ∧ g < w9.heap.size) := by assumption
                have HM9 : Hid (Mine w9 W5.heap.size (.slice A9 n9 c9) (compL x y)) := Lib.hid (by assumption)
                have Hnr := Lib.hid (hnr.out.step hS9'.1)
                have Hnb := Lib.hid (hnb.out.trans (hS9'.1.mono hnb.out.size))
                have hN9 : N ≤ w9.heap.size := by have := hS9'.1.size; omega
                have hW59 : ∀ v ∈ us, ∀ q, v.ownBlock = some q → q < W5.heap.size := fun v hv q hq => (hnr.out.2.lt v hv q hq).2
                have HW59 := Lib.hid hW59
                clear hS9' hnr hnb hW59 G KeepS hS5
                go_wp2_with (first | (at_builtin; go_loud (refine wpList_app1 w9 rfl (.tmp 64) (.tmp 66) 90 rfl N 25 i0 _ 1 24 Try.underlying90 Hi.out.1 Hi.out.2.1 Hi.out.2.2.1 Hi.out.2.2.2 rfl (by omega) (by omega) u11 us.length us rfl Hnr.out.1 #[.slice A9 n9 c9] 1 rfl rfl (by simp [Value.oneCell']) Hul8 hN9 ?_; intro v10 w10 q7 q8 q9 q10)))
                have hfin := Hnr.out.snoc (l := compL x y) ⟨own_base HM9.out.own HN5, HM9.out.len, HM9.out.txt⟩ q7 q9
                have htk : (nxt ls).take (k + 1) = (nxt ls).take k ++ [compL x y] := by rw [List.take_add_one, Hnx.out]; rfl
                rw [← htk] at hfin
                have hfi2 : Inc (us ++ [Value.slice A9 n9 c9]) := hni.out.snoc HW59.out fun q hq => (HM9.out.lt q hq).1
                have Hfin := Lib.hid hfin
                have Hfi2 := Lib.hid hfi2
                have Hq8 : Hid (Below w5.heap.size w5 w10) := Lib.hid (Hnb.out.trans (by rw [HN.out]; exact q8))
                clear hfin hfi2 htk q7 q8 q9 q10
                go_roundw
                case rel => exact ⟨k + 1, j + 2, us ++ [.slice A9 n9 c9], by omega, by go_num, Lib.hid (by rw [hjk.out]; omega), Lib.hid (by rw [List.length_append, hul.out]; rfl), Hfin, Hfi2, Hq8⟩
                case measure => simp [intOf]; omega
            · have hk2 : (nxt ls).length ≤ k := by rw [nxt_len, hlm.out]; have := hjk.out; omega
              have hnr2 := hnr.out
              rw [List.take_of_length_le hk2] at hnr2
              obtain ⟨An, cn, rfl⟩ := hnr2.form
              obtain ⟨m1, hm1⟩ : ∃ m1, (nxt ls).length = m1 := ⟨_, rfl⟩
              have hm12 : m1 = m / 2 := by rw [← hm1, nxt_len, hlm.out]
              rw [hm1] at hnr2 ⊢
              have HM1 := Lib.hid hm1
              have Hnr := Lib.hid (show OwnRow wr w.heap.size (.slice An m1 cn) us (nxt ls) from hnr2.base (by rw [← HN.out]; exact Hbw.out.size))
              have Hti := Lib.hid (Hti.out.step hnb.out)
              have Hin2 : Hid (Inc ((uss ++ [us3]).flatten ++ us)) := Lib.hid (Hin.out.append (N := N) hni.out (fun v hv q hq => by have := (Hti0.out.lt v hv q hq).2; rw [← HN.out]; exact this) fun v hv q hq => (hnr2.2.lt v hv q hq).1)
              have Hbw2 := Lib.hid (Hbw.out.trans (hnb.out.mono Hbw.out.size))
              have Hlt : Hid (m1 < 2 ^ f1) := Lib.hid (by
                have := hmf.out
                rw [Nat.pow_succ] at this
                omega)
              have hm1m : m1 < m := by omega
              have hge : (m : Int) ≤ (j : Int) + 1 := by omega
              have hge2 : ¬ ((j : Int) + 1 < (m : Int)) := by omega
              have hm164 : m1 ≤ 64 := by omega
              have Hrl8 : Hid ((rs ++ [Value.slice (some ⟨g, 0, none⟩) m c3]).length ≤ 8) := Lib.hid (by have := Hrf.out; omega)
              have Hlv : Hid (nxt ls = lvl (l.map fun r => r.2.2) (p + 1)) := Lib.hid (by rw [lvl, ← hlv.out])
              obtain ⟨W6, rfl⟩ : ∃ W6, W6 = wr := ⟨_, rfl⟩
              clear hnr hnr2 hm1 hk2 hlt hm12
              go_wp2_with fail
              go_roundw
              case rel => exact ⟨m1, f1, p + 1, An, cn, us, rs ++ [.slice (some ⟨g, 0, none⟩) m c3], uss ++ [us3], nxt ls, lss ++ [ls], rfl, hm164, HM1, Hlv, Hlt, Htf, Hnr, Hti, Hrl8, Hrf, Hin2, Hbw2⟩
              case measure => simp [slen]; omega
end Go.Proofs.Ytcdielgpmnhmjaa
namespace Go.Proofs.Ytcdielgpmnhmjaa
open Go.ChangeShapes Go.WideShapes Go.RowKit
set_option linter.unusedVariables false
set_option linter.unusedSimpArgs false
set_option maxRecDepth 100000
set_option maxHeartbeats 4000000

/-- where blocks that lie one behind the other from i end; none if one lies elsewhere -/
def tiles : Nat → List (Nat × Nat) → Option Nat
  | i, [] => some i
  | i, b :: r => if b.1 ≤ 6 ∧ b.2 * 2 ^ b.1 = i ∧ b.2 ≤ 64 then tiles (i + 2 ^ b.1) r else none
def bitsOf (n : Nat) : Nat := if n ≤ 1 then 0 else if n ≤ 2 then 1 else if n ≤ 4 then 2 else if n ≤ 8 then 3 else if n ≤ 16 then 4 else if n ≤ 32 then 5 else 6
theorem bitsOf_le (n : Nat) : bitsOf n ≤ 6 := by unfold bitsOf; (repeat' split) <;> omega
theorem tiles_cons (i k : Nat) (b : Nat × Nat) (r : List (Nat × Nat)) (h : tiles i (b :: r) = some k) : b.1 ≤ 6 ∧ b.2 * 2 ^ b.1 = i ∧ b.2 ≤ 64 ∧ tiles (i + 2 ^ b.1) r = some k := by
  simp only [tiles] at h
  split at h
  · rename_i hc; exact ⟨hc.1, hc.2.1, hc.2.2, h⟩
  · cases h
theorem tiles_all : ∀ k : Fin 65, ∀ i : Fin 65, i.val ≤ k.val → tiles i.val (coverL 65 i.val k.val) = some k.val ∧ (coverL 65 i.val k.val).length ≤ 2 * bitsOf (k.val - i.val) + 1 := by
  decide +kernel
theorem cover_16 : coverL 65 1 6 = [(0, 1), (1, 1), (1, 2)] := by decide +kernel
theorem bcell_at (l : List (Nat × Nat)) (k : Nat) (hk : k < l.length) : (l.flatMap bcells)[k * 2]? = some (.int .i64 l[k].1) ∧ (l.flatMap bcells)[k * 2 + 1]? = some (.int .i64 l[k].2) := by
  induction l generalizing k with
  | nil => simp at hk
  | cons b r ih =>
    rcases k with _ | k
    · exact ⟨rfl, rfl⟩
    · have := ih k (by simpa using hk)
      simp only [List.flatMap_cons, bcells, List.getElem_cons_succ]
      rw [show (k + 1) * 2 = k * 2 + 1 + 1 by omega]
      exact this
theorem tiles_le : ∀ (l : List (Nat × Nat)) (i k : Nat), tiles i l = some k → i ≤ k
  | [], i, k, h => by simp [tiles] at h; omega
  | b :: r, i, k, h => by
    obtain ⟨_, _, _, h4⟩ := tiles_cons i k b r h
    have := tiles_le r _ _ h4
    exact Nat.le_trans (Nat.le_add_right _ _) this
theorem tiersL_at {l : List Rv} (h : l.length ≤ 64) (x : Nat) (hx : x < (tiersL l).length) : ((tiersL l)[x]).length = l.length / 2 ^ x ∧ 0 < ((tiersL l)[x]).length ∧ (tiersL l)[x] = lvl (l.map fun r => r.2.2) x := by
  have e0 : (tiersL l)[x]? = some (tiersL l)[x] := List.getElem?_eq_getElem hx
  have := tiersF_at 8 (l.map fun (r : Rv) => r.2.2) x (tiersL l)[x] e0
  refine ⟨?_, this.2, this.1⟩
  rw [show (tiersL l)[x] = lvl (l.map fun r => r.2.2) x from this.1, lev_len, List.length_map]
theorem tiersL_len {l : List Rv} (h : l.length ≤ 64) : l.length / 2 ^ (tiersL l).length = 0 ∧ (tiersL l).length ≤ 7 := by
  have h1 := tiersF_len 7 (l.map fun r => r.2.2) (by rw [List.length_map]; exact Nat.lt_of_le_of_lt h (by decide))
  have h0 : tiersF 8 (l.map fun r => r.2.2) = tiersF 7 (l.map fun r => r.2.2) := by
    have aux : ∀ (f : Nat) (r : List (List Pt)), r.length < 2 ^ f → tiersF (f + 1) r = tiersF f r := by
      intro f
      induction f with
      | zero =>
        intro r hr
        have : r = [] := List.eq_nil_of_length_eq_zero (by simpa using hr)
        subst this
        rfl
      | succ f ih =>
        intro r hr
        by_cases hr0 : r.length = 0
        · rw [tiersF, if_pos hr0, tiersF, if_pos hr0]
        · rw [tiersF, if_neg hr0, show tiersF (f + 1) r = r :: tiersF f (nxt r) by rw [tiersF, if_neg hr0], ih]
          rw [nxt_len, Nat.div_lt_iff_lt_mul (by decide)]
          rw [Nat.pow_succ] at hr
          exact hr
    exact aux 7 _ (by rw [List.length_map]; exact Nat.lt_of_le_of_lt h (by decide))
  unfold tiersL
  rw [h0]
  rw [List.length_map] at h1
  exact ⟨h1, tiersF_le 7 _⟩
theorem tiersL_pos {l : List Rv} (h : l ≠ []) : 0 < (tiersL l).length := tiersF_pos (f := 7) (by rw [List.length_map]; exact fun e => h (List.eq_nil_of_length_eq_zero e))
theorem tiersL_nil : tiersL [] = [] := rfl
/-- where a block is found -/
theorem tier_block {base : ByteArray} {l : List Rv} (h : txE base l = 0) (x y : Nat) (hk : (y + 1) * 2 ^ x ≤ l.length) : ∃ ls, (tiersL l)[x]? = some ls ∧ ls[y]? = some (bk base l (y * 2 ^ x) ((y + 1) * 2 ^ x)) := by
  have hl := (txE_parts h).2.1
  have ht := (tiersL_len hl).1
  have hx : x < (tiersL l).length := by
    rcases Nat.lt_or_ge x (tiersL l).length with h1 | h1
    · exact h1
    · have h2 : 2 ^ (tiersL l).length ≤ 2 ^ x := Nat.pow_le_pow_right (by decide) h1
      have h3 : l.length < 2 ^ (tiersL l).length := by
        rcases Nat.div_eq_zero_iff.1 ht with h | h
        · exact absurd h (Nat.ne_of_gt (Nat.two_pow_pos _))
        · exact h
      have h4 : 1 * 2 ^ x ≤ (y + 1) * 2 ^ x := Nat.mul_le_mul_right _ (by omega)
      omega
  refine ⟨_, List.getElem?_eq_getElem hx, ?_⟩
  rw [(tiersL_at hl x hx).2.2]
  exact lev_bk h x y hk
theorem bk_chk {base : ByteArray} {l : List Rv} (h : txE base l = 0) (i k : Nat) (hik : i ≤ k) (hk : k ≤ l.length) : chk (bk base l i k) = 0 := (do_chk (btw_of h i k hik hk).1).1
/-- a delta of a tier as the program reads it -/
theorem OwnTier.look {w : World} {B m c : Nat} {A : Option Addr} {rs : List Value} {uss : List (List Value)} {lss : List (List (List Pt))} (h : OwnTier w B (.slice A m c) rs uss lss) (x y : Nat) (ls : List (List Pt)) (d : List Pt) (h1 : lss[x]? = some ls) (h2 : ls[y]? = some d) :
    ∃ g g1 c1 A2 n2 c2, A = some ⟨g, 0, none⟩ ∧ x < m ∧ g < w.heap.size ∧ w.cell? ⟨g, x, none⟩ = some (.slice (some ⟨g1, 0, none⟩) ls.length c1) ∧ g1 < w.heap.size ∧ w.cell? ⟨g1, y, none⟩ = some (.slice A2 n2 c2) ∧ y < ls.length ∧ RdP w w.heap.size A2 n2 c2 d := by
  obtain ⟨hx, ex⟩ := List.getElem?_eq_some_iff.1 h1
  obtain ⟨hy, ey⟩ := List.getElem?_eq_some_iff.1 h2
  have hrl : x < rs.length := by rw [h.len1]; exact hx
  obtain ⟨g, cc, e0, _⟩ := World.ownsRow.form h.own (by omega)
  injection e0 with e1 e2 e3
  subst e1; subst e2
  have er : rs[x]? = some rs[x] := List.getElem?_eq_getElem hrl
  have hc := World.ownsRow.cellAt h.own x (by omega)
  rw [er] at hc
  have eu : uss[x]? = some (uss[x]'(by rw [h.len2]; exact hx)) := List.getElem?_eq_getElem _
  have ho := h.at_ x _ _ _ er eu h1
  obtain ⟨A1, c1, e⟩ := ho.form
  rw [e] at hc ho
  obtain ⟨g1, cc1, e4, _⟩ := World.ownsRow.form ho.1 (by rw [ho.2.len]; omega)
  injection e4 with e5 e6 e7
  subst e5
  obtain ⟨A2, n2, c2, _, k2, k3, _⟩ := ho.at_ y hy
  rw [ey] at k3
  exact ⟨g, g1, c1, A2, n2, c2, rfl, hrl, (World.ownsRow.lt h.own g rfl).2, hc, (World.ownsRow.lt ho.1 g1 rfl).2, k2, hy, k3⟩
end Go.Proofs.Ytcdielgpmnhmjaa
namespace Go.Proofs.Ytcdielgpmnhmjaa
open Go.ChangeShapes Go.WideShapes Go.RowKit
set_option linter.unusedVariables false
set_option linter.unusedSimpArgs false
set_option maxRecDepth 100000
set_option maxHeartbeats 4000000

theorem comp_rdn (a b : List Pt) (A A' : Option Addr) (n n' c c' : Nat) (w : World) (h : RdP w w.heap.size A n c a) (h' : RdP w w.heap.size A' n' c' b) (z : Int) (x : List Pt) (hz : compE a b = z) (hx : compL a b = x) :
    Calls Try.prog 89 #[.slice A n c, .slice A' n' c'] w fun e w' => ∃ A1 n1 c1, e = .returned (.tuple #[.slice A1 n1 c1, .int .i64 z]) ∧ RdP w' w'.heap.size A1 n1 c1 x ∧ Below w.heap.size w w' := by
  subst hz; subst hx
  refine (comp_rd a b A A' n n' c c' w h h').mono ?_
  rintro e w' ⟨A1, c1, rfl, h1, hb⟩
  exact ⟨_, _, _, rfl, h1, hb⟩
theorem allL_small (n : Int) : ∀ p ∈ allL n, p.2.2.size ≤ 140737488351232 := by
  unfold allL
  split
  · simp
  · simp [emp]; decide
theorem idle_any (n : Nat) (hn : n ≤ 500) (w : World) :
    Calls Try.prog 118 #[.int .i64 n] w fun e w' => ∃ A m c, e = .returned (.slice A m c) ∧ RdP w' w'.heap.size A m c (allL n) ∧ Below w.heap.size w w' := by
  have hm0 := Mk.fresh w (.cells #[.slice none 0 0, .string ⟨#[]⟩, .int .i64 0] 140)
  have hb0 := (Below.refl w.heap.size w).alloc (Nat.le_refl _) (.cells #[.slice none 0 0, .string ⟨#[]⟩, .int .i64 0] 140)
  have he : Hid (grp (cz ([] ++ ku (n : Int))) = allL n) := Lib.hid (by
    have := grp_cz_good (all_chk n hn)
    rw [all_units] at this
    rw [List.nil_append, ku_nat]; exact this)
  have hn' : (n : Int) ≤ 500 := by omega
  have hn0 : (0 : Int) ≤ (n : Int) := by omega
  go_enter Try.func118, Try.ntmps118
  go_wp2_with fail
  refine (mkeep_any (n : Int) hm0 (by simp) hb0.size (by omega) (by omega)).mono ?_
  rintro e w1 ⟨rfl, ob, hm1, hf1⟩
  have hge := hm0.ge
  have hw1 := hb0.trans (hf1.below_ hb0.size (Nat.le_refl _) fun k hk => (hge k hk).1)
  have Hm1 := Lib.hid hm1
  clear hm1 hf1 hge hm0
  go_wp2_with fail
  refine (mdone_any Hm1.out (by simp [ku]; omega) hw1.size).mono ?_
  rintro e w2 ⟨v, ob2, rfl, ho, _, hf⟩
  have hge := Hm1.out.ge
  have hw2 := hw1.trans (hf.below_ hw1.size (Nat.le_refl _) fun k hk => (hge k hk).1)
  rw [he.out] at ho
  obtain ⟨A5, c5, rfl, hr⟩ := ho.rd (allL_small n)
  have Hr := Lib.hid hr
  clear ho hf hge hr
  go_wp2_with fail
  go_ret
  exact ⟨_, _, _, rfl, Hr.out, hw2⟩
theorem between_err (base : ByteArray) (l : List Rv) (A : Option Addr) (n c B : Nat) (i k : Int) (w : World) (h : RdR w B A n c l) (hB : B ≤ w.heap.size) (hbs : base.size ≤ 9223372036854775807) (he : txE base l ≠ 0) :
    Calls Try.prog 75 #[.string base, .slice A n c, .int .i64 i, .int .i64 k] w fun e w' => e = .returned (.tuple #[.slice none 0 0, .int .i64 (txE base l)]) ∧ Below w.heap.size w w' := by
  have hc := texts_any base l A n c B w h hB hbs
  have Hc := Lib.hid hc
  have hne : (txE base l != 0) = true := by simpa using he
  clear hc h he
  go_enter Try.func75, Try.ntmps75
  go_wp2_with fail
  refine Hc.out.mono ?_
  rintro e w1 ⟨A1, n1, c1, rfl, _, hb⟩
  go_wp2_with fail
  go_ret2
  exact ⟨rfl, hb⟩
theorem between_arg (base : ByteArray) (l : List Rv) (A : Option Addr) (n c B : Nat) (i k : Int) (w : World) (h : RdR w B A n c l) (hB : B ≤ w.heap.size) (hbs : base.size ≤ 9223372036854775807) (he : txE base l = 0) (hk : i < 0 ∨ (n : Int) < k ∨ k < i) :
    Calls Try.prog 75 #[.string base, .slice A n c, .int .i64 i, .int .i64 k] w fun e w' => e = .returned (.tuple #[.slice none 0 0, .int .i64 1]) ∧ Below w.heap.size w w' := by
  have hc := texts_any base l A n c B w h hB hbs
  rw [he] at hc
  have Hc := Lib.hid hc
  have hle := h.le
  clear hc h he
  rcases (show i < 0 ∨ (0 ≤ i ∧ (n : Int) < k) ∨ (0 ≤ i ∧ k ≤ (n : Int) ∧ k < i) by omega) with h1 | ⟨h1, h2⟩ | ⟨h1, h2, h3⟩
  all_goals
    clear hk
    go_enter Try.func75, Try.ntmps75
    go_wp2_with fail
    refine Hc.out.mono ?_
    rintro e w1 ⟨A1, n1, c1, rfl, _, hb⟩
    go_wp2_with fail
    go_ret2
    exact ⟨rfl, hb⟩
theorem between_same (base : ByteArray) (l : List Rv) (A : Option Addr) (B i : Nat) (w : World) (h : RdR w B A i i l) (hB : B ≤ w.heap.size) (he : txE base l = 0) (R : List Pt)
    (hR : btw (allL (txt base l i).size) ((l.drop i).take (i - i)) = R) :
    Calls Try.prog 75 #[.string base, .slice A i i, .int .i64 i, .int .i64 i] w fun e w' => ∃ A1 n1 c1, e = .returned (.tuple #[.slice A1 n1 c1, .int .i64 0]) ∧ RdP w' w'.heap.size A1 n1 c1 R ∧ Below w.heap.size w w' := by
  have hp := txE_parts he
  have hc := texts_any base l A i i B w h hB (by omega)
  rw [he] at hc
  have Hc := Lib.hid hc
  have hn : i = l.length := h.1
  have hcaps := h.caps
  have hkn' : (i : Int) ≤ (i : Int) := by omega
  have hik' : (i : Int) ≤ (i : Int) := by omega
  have hi0 : (0 : Int) ≤ (i : Int) := by omega
  have hin : (i : Int) < (i : Int) + 1 := by omega
  have hn64 : (i : Int) ≤ 64 := by omega
  have hnc : (i : Int) ≤ (i : Int) := by omega
  have hkc : (i : Int) ≤ (i : Int) := by omega
  have hat := txs_at l base i (by omega)
  have hlen := txs_len l base
  have hS5 := txt_size l base i hp.1
  have hdr := txr_take (l.drop i) (txt base l i) (i - i) (txr_drop l base i hp.2.2)
  obtain ⟨S, hS⟩ : ∃ S, txt base l i = S := ⟨_, rfl⟩
  rw [hS] at hat hS5 hdr hR
  have Hda := Lib.hid (do_all hS5)
  have Hat := Lib.hid hat
  have Hlen := Lib.hid (show (txs base l).length = i + 1 by omega)
  have Hdr := Lib.hid hdr
  have HR := Lib.hid hR
  have Hn := Lib.hid hn
  have hR0 : allL (S.size : Int) = R := by have h1 := HR.out; rw [Nat.sub_self, List.take_zero] at h1; exact h1
  have HR0 := Lib.hid hR0
  clear hc h he hp hat hlen hS hn hdr hR hR0
  go_enter Try.func75, Try.ntmps75
  go_wp2_with fail
  refine Hc.out.mono ?_
  rintro e w1 ⟨A1, n1, c1, rfl, hown, hb⟩
  have ho := hown trivial
  unfold OwnS at ho
  rw [Hlen.out] at ho
  have hnn : n1 = i + 1 ∧ ∃ g, A1 = some ⟨g, 0, none⟩ := by
    rcases ho.2 with ⟨hv, h0⟩ | ⟨g', cap, cur, hv, _⟩
    · omega
    · injection hv with h1 h2 h3; exact ⟨h2, g', h1⟩
  obtain ⟨rfl, g, rfl⟩ := hnn
  have hcl : w1.cell? ⟨g, i, none⟩ = some (.string S) := by
    rw [World.ownsRow.cellAt ho i (by omega), List.getElem?_map, Hat.out]
    rfl
  clear hown ho
  go_wp2_with fail
  refine (idle_any S.size hS5 _).mono ?_
  rintro e w2 ⟨A2, n2, c2, rfl, hr2, hb2⟩
  have hw2 := hb.trans (hb2.mono hb.size)
  have Hr2 := Lib.hid hr2
  clear hr2 hb2 hb hcl
  go_wp2_with fail
  go_loopw [11, 12, 14, 48] (fun ev ov pv iv wr => iv = .int .i64 0 ∧ ov = .slice A2 n2 c2 ∧ wr = w2) (fun _ _ _ i _ => 0)
  case atStart => exact ⟨rfl, rfl, rfl⟩
  case round =>
    obtain ⟨rfl, rfl, rfl⟩ := hrel
    go_wp2_with fail
    go_ret2
    exact ⟨_, _, _, rfl, by rw [← HR0.out]; exact Hr2.out, hw2⟩
theorem between_more (base : ByteArray) (l : List Rv) (A : Option Addr) (n c B i k : Nat) (w : World) (h : RdR w B A n c l) (hB : B ≤ w.heap.size) (he : txE base l = 0) (hik : i ≤ k) (hkn : k ≤ n) (R : List Pt)
    (hR : btw (allL (txt base l i).size) ((l.drop i).take (k - i)) = R) (hci : c ≠ i) :
    Calls Try.prog 75 #[.string base, .slice A n c, .int .i64 i, .int .i64 k] w fun e w' => ∃ A1 n1 c1, e = .returned (.tuple #[.slice A1 n1 c1, .int .i64 0]) ∧ RdP w' w'.heap.size A1 n1 c1 R ∧ Below w.heap.size w w' := by
  have hp := txE_parts he
  have hc := texts_any base l A n c B w h hB (by omega)
  rw [he] at hc
  have Hc := Lib.hid hc
  have hn : n = l.length := h.1
  have hcaps := h.caps
  have hkn' : (k : Int) ≤ (n : Int) := by omega
  have hik' : (i : Int) ≤ (k : Int) := by omega
  have hi0 : (0 : Int) ≤ (i : Int) := by omega
  have hin : (i : Int) < (n : Int) + 1 := by omega
  have hn64 : (n : Int) ≤ 64 := by omega
  have hnc : (n : Int) ≤ (c : Int) := by omega
  have hkc : (k : Int) ≤ (c : Int) := by omega
  have hat := txs_at l base i (by omega)
  have hlen := txs_len l base
  have hS5 := txt_size l base i hp.1
  have hdr := txr_take (l.drop i) (txt base l i) (k - i) (txr_drop l base i hp.2.2)
  obtain ⟨S, hS⟩ : ∃ S, txt base l i = S := ⟨_, rfl⟩
  rw [hS] at hat hS5 hdr hR
  have Hda := Lib.hid (do_all hS5)
  have Hat := Lib.hid hat
  have Hlen := Lib.hid (show (txs base l).length = n + 1 by omega)
  have Hdr := Lib.hid hdr
  have HR := Lib.hid hR
  have Hn := Lib.hid hn
  obtain ⟨A', hA'⟩ : ∃ A', Option.map (fun x : Addr => x.add (i * 3)) A = A' := ⟨_, rfl⟩
  obtain ⟨N, hN⟩ : ∃ N, k - i = N := ⟨_, rfl⟩
  have hdrop : RdR w B A' N (c - i) ((l.drop i).take N) := (h.drop i (by omega) A' (fun _ b o e => by
    rw [← hA', e]
    simp only [Option.map_some, Addr.add]
    by_cases h0 : i * 3 = 0
    · simp [h0]
    · simp [h0])).take N (by omega)
  rw [hN] at HR Hdr
  have hN64 : (N : Int) ≤ 64 := by omega
  have hNk : (k : Int) - (i : Int) = (N : Int) := by omega
  have Hd := Lib.hid hdrop
  have hcif : (c = i) = False := by simp; omega
  clear hc h he hp hat hlen hS hn hdr hR hci hdrop
  go_enter Try.func75, Try.ntmps75
  go_wp2_with fail
  refine Hc.out.mono ?_
  rintro e w1 ⟨A1, n1, c1, rfl, hown, hb⟩
  have ho := hown trivial
  unfold OwnS at ho
  rw [Hlen.out] at ho
  have hnn : n1 = n + 1 ∧ ∃ g, A1 = some ⟨g, 0, none⟩ := by
    rcases ho.2 with ⟨hv, h0⟩ | ⟨g', cap, cur, hv, _⟩
    · omega
    · injection hv with h1 h2 h3; exact ⟨h2, g', h1⟩
  obtain ⟨rfl, g, rfl⟩ := hnn
  have hcl : w1.cell? ⟨g, i, none⟩ = some (.string S) := by
    rw [World.ownsRow.cellAt ho i (by omega), List.getElem?_map, Hat.out]
    rfl
  clear hown ho
  go_wp2_with fail
  refine (idle_any S.size hS5 _).mono ?_
  rintro e w2 ⟨A2, n2, c2, rfl, hr2, hb2⟩
  have hw2 := hb.trans (hb2.mono hb.size)
  have Hr2 := Lib.hid hr2
  clear hr2 hb2 hb hcl
  go_wp2_with fail
  go_loopw [11, 12, 14, 48] (fun ev ov pv iv wr => ∃ (j : Nat) (A1 : Option Addr) (n1 c1 : Nat) (o : List Pt), j ≤ N ∧ iv = .int .i64 j ∧ ov = .slice A1 n1 c1 ∧ Hid (RdP wr wr.heap.size A1 n1 c1 o) ∧ Hid (doE o S = 0 ∧ txr (doS o S) (((l.drop i).take N).drop j) = 0 ∧ btw o (((l.drop i).take N).drop j) = R) ∧ Below w.heap.size w wr) (fun _ _ _ i _ => N - (intOf i).toNat)
  case atStart => exact ⟨0, _, _, _, _, by omega, rfl, rfl, Hr2, Lib.hid ⟨Hda.out.1, by rw [Hda.out.2, List.drop_zero]; exact Hdr.out, by rw [List.drop_zero]; exact HR.out⟩, hw2⟩
  case round =>
    obtain ⟨j, A3, n3, c3, t, hj, rfl, rfl, hrt, hst, hbwr⟩ := hrel
    by_cases hlt : j < N
    · have hkl : j < ((l.drop i).take N).length := by have := Hd.out.1; omega
      obtain ⟨b4, o4, A4, n4, c4, rfl, hb4, d0, d1, d2, hrd⟩ := (Hd.out.below (hbwr.mono hB)).at_ j hlt
      have hdr : ((l.drop i).take N).drop j = ((l.drop i).take N)[j] :: ((l.drop i).take N).drop (j + 1) := List.drop_eq_getElem_cons hkl
      rw [hdr] at hst
      have hstep := Lib.hid (btw_step hst.out.1 hst.out.2.1)
      obtain ⟨r, hr⟩ : ∃ r, r = ((l.drop i).take N)[j] := ⟨_, rfl⟩
      rw [← hr] at hst hstep d0 d1 hrd
      clear hr hdr
      obtain ⟨ra, rb, d⟩ := r
      simp only at d0 d1 d2 hrd hstep
      have hj0 : (0 : Int) ≤ (j : Int) := by omega
      have hjn : (j : Int) < (N : Int) := by omega
      have hgl : b4 < wr.heap.size := by have := hbwr.size; omega
      have hwb := hbwr.size
      have hw4 := hbwr.alloc hbwr.size (.cells #[.int .i64 ra, .int .i64 rb, .slice A4 n4 c4] 27)
      have hrd' := (hrd.more (show B ≤ wr.heap.size by omega)).stepA (.cells #[.int .i64 ra, .int .i64 rb, .slice A4 n4 c4] 27)
      have hrt' := hrt.out.stepA (.cells #[.int .i64 ra, .int .i64 rb, .slice A4 n4 c4] 27)
      have hcall := comp_rdn t d A3 A4 n3 n4 c3 c4 _ hrt' hrd' 0 _ hstep.out.1 rfl
      have Hcall := Lib.hid hcall
      have Hnx := Lib.hid (show doE (compL t d) S = 0 ∧ txr (doS (compL t d) S) (((l.drop i).take N).drop (j + 1)) = 0 ∧ btw (compL t d) (((l.drop i).take N).drop (j + 1)) = R from ⟨hstep.out.2.1, hstep.out.2.2, hst.out.2.2⟩)
      clear hrd hrd' hrt' hcall hst hstep
      go_wp2_with fail
      refine Hcall.out.mono ?_
      rintro e w5 ⟨A5, n5, c5, rfl, hr5, hb5⟩
      have hw5 := hw4.trans (hb5.mono hw4.size)
      have Hr5 := Lib.hid hr5
      clear hr5 hb5
      go_wp2_with fail
      go_roundw
      case rel => exact ⟨j + 1, _, _, _, _, by omega, by go_num, rfl, Hr5, Hnx, hw5⟩
      case measure => simp [intOf]; omega
    · have hjn : decide (j < N) = false := by simpa using hlt
      obtain rfl : j = N := by omega
      have h1 := hst.out.2.2
      rw [List.drop_eq_nil_of_le (by have := Hd.out.1; omega)] at h1
      have hRt : t = R := h1
      subst hRt
      clear hst h1
      go_wp2_with fail
      go_ret2
      exact ⟨_, _, _, rfl, hrt.out, hbwr⟩
theorem between_good (base : ByteArray) (l : List Rv) (A : Option Addr) (n c B i k : Nat) (w : World) (h : RdR w B A n c l) (hB : B ≤ w.heap.size) (he : txE base l = 0) (hik : i ≤ k) (hkn : k ≤ n) (R : List Pt)
    (hR : btw (allL (txt base l i).size) ((l.drop i).take (k - i)) = R) :
    Calls Try.prog 75 #[.string base, .slice A n c, .int .i64 i, .int .i64 k] w fun e w' => ∃ A1 n1 c1, e = .returned (.tuple #[.slice A1 n1 c1, .int .i64 0]) ∧ RdP w' w'.heap.size A1 n1 c1 R ∧ Below w.heap.size w w' := by
  by_cases hci : c = i
  · have := h.caps
    obtain rfl : k = i := by omega
    obtain rfl : n = k := by omega
    subst hci
    exact between_same base l A B _ w h hB he R hR
  · exact between_more base l A n c B i k w h hB he hik hkn R hR hci
end Go.Proofs.Ytcdielgpmnhmjaa
