/- Contract of frame.Scan, and of frame.Put for any frame. -/
import Derived.Test.YtcclcgapcnjcdaaFrames
namespace Go.Proofs.Ytcclcgapcnjcdaa
open Go.ChangeShapes Go.WideShapes Go.RowKit Go.Joins Go.Deep
set_option linter.unusedVariables false
set_option linter.unusedSimpArgs false
set_option maxRecDepth 100000
set_option maxHeartbeats 4000000

def okF (p : Fm) : Prop := 1 ≤ p.1 ∧ p.1 ≤ 255 ∧ p.2.size ≤ 4000
instance (p : Fm) : Decidable (okF p) := by unfold okF; infer_instance
def txF (p : Fm) : List UInt8 := frL p.1.toNat p.2.data.toList
def flat : List Fm → List UInt8
  | [] => []
  | p :: l => txF p ++ flat l
theorem flat_app (l l' : List Fm) : flat (l ++ l') = flat l ++ flat l' := by
  induction l with
  | nil => rfl
  | cons p l ih => simp only [List.cons_append, flat, ih, List.append_assoc]
theorem txF_len (p : Fm) : (txF p).length = p.2.size + 7 := by unfold txF; rw [frL_len]; rfl
theorem gf_txF (p : Fm) (more : List UInt8) (h : okF p) : gf (txF p ++ more) = (p.1.toNat, p.2.data.toList, p.2.size + 7, 0) := by
  obtain ⟨h1, h2, h3⟩ := h
  unfold txF
  rw [gf_frL _ _ _ (by omega) (by omega) h3]
  rfl
theorem get_good (p : Fm) (s : ByteArray) (more : List UInt8) (hp : okF p) (hs : s.data.toList = txF p ++ more) (w : World) :
    Calls Try.prog 51 #[.string s] w fun e w' => e = .returned (.tuple #[.agg #[.int .i64 p.1, .string p.2], .int .i64 ((p.2.size + 7 : Nat) : Int), .int .i64 0]) ∧ Below w.heap.size w w' := by
  have h := fget_any s w
  rw [hs, gf_txF p more hp] at h
  have e : frV (p.1.toNat, p.2.data.toList, p.2.size + 7, 0) = .tuple #[.agg #[.int .i64 p.1, .string p.2], .int .i64 ((p.2.size + 7 : Nat) : Int), .int .i64 0] := by
    unfold frV
    have h1 : ((p.1.toNat : Nat) : Int) = p.1 := by have := hp.1; omega
    simp only [h1]
    rfl
  rw [e] at h
  exact h
theorem get_bad (s : ByteArray) (hs : (gf s.data.toList).2.2.2 ≠ 0) (w : World) :
    Calls Try.prog 51 #[.string s] w fun e w' => (∃ E : Int, E ≠ 0 ∧ e = .returned (.tuple #[.agg #[.int .i64 0, .string ⟨#[]⟩], .int .i64 0, .int .i64 E])) ∧ Below w.heap.size w w' := by
  have h := fget_any s w
  rw [gf_wrong _ hs] at h
  refine h.mono ?_
  rintro e w' ⟨rfl, hb⟩
  exact ⟨⟨((gf s.data.toList).2.2.2 : Nat), by omega, rfl⟩, hb⟩
theorem scan_any (s : ByteArray) (fs : List Fm) (rest : List UInt8) (hok : ∀ p ∈ fs, okF p) (hs : s.data.toList = flat fs ++ rest) (hr : (gf rest).2.2.2 ≠ 0) (hn : fs.length ≤ 5864062014636) (hsz : s.size ≤ 1000000000000000000) (N G : Nat) (hN : fs.length = N) (hG : (flat fs).length = G) (w : World) :
    Calls Try.prog 22 #[.string s] w fun e w' => ∃ A c, e = .returned (.tuple #[.slice A N c, .int .i64 G]) ∧ RdF w' w'.heap.size A N c fs ∧ Below w.heap.size w w' := by
  have Hok := Lib.hid hok
  have Hs := Lib.hid hs
  have Hr := Lib.hid hr
  have HN := Lib.hid hN
  have HG := Lib.hid hG
  have hsl : s.data.toList.length = s.size := rfl
  have Hsl := Lib.hid hsl
  clear hok hs hr hN hG hsl
  go_enter Try.func22, Try.ntmps22
  go_wp2_with fail
  go_loopw [4, 5, 6, 7, 8] (fun ov gv pv nv ev wr => ∃ (k g : Nat), k ≤ N ∧ gv = .int .i64 g ∧ g ≤ s.size ∧ Hid (OwnF wr w.heap.size ov (fs.take k)) ∧ Hid ((flat (fs.take k)).length = g) ∧ Hid ((s.extract g s.size).data.toList = flat (fs.drop k) ++ rest) ∧ Below w.heap.size w wr) (fun _ gv _ _ _ _ => s.size + 1 - (intOf gv).toNat)
  case atStart => exact ⟨0, 0, by omega, rfl, by omega, Lib.hid (OwnF.nil _ _), Lib.hid rfl, Lib.hid (by rw [bs_extract, ← Hsl.out, List.take_length]; exact Hs.out), Below.refl _ _⟩
  case round =>
    obtain ⟨k, g, hk, rfl, hgs, hown, hfl, hex, hbw⟩ := hrel
    have hg0 : (0 : Int) ≤ (g : Int) := by omega
    have hgs' : (g : Int) ≤ (s.size : Int) := by omega
    obtain ⟨Y, hY⟩ : ∃ Y, s.extract g s.size = Y := ⟨_, rfl⟩
    rw [hY] at hex
    by_cases hlt : k < N
    · have hkl : k < fs.length := by have := HN.out; omega
      have hp := Hok.out _ (List.getElem_mem hkl)
      have hdr : fs.drop k = fs[k] :: fs.drop (k + 1) := List.drop_eq_getElem_cons hkl
      have hts : fs.take (k + 1) = fs.take k ++ [fs[k]] := List.take_succ_eq_append_getElem hkl
      have hex2 := hex.out
      rw [hdr] at hex2
      obtain ⟨p, hpe⟩ : ∃ p, p = fs[k] := ⟨_, rfl⟩
      rw [← hpe] at hp hex2 hts
      have hYl : Y.data.toList.length = Y.size := rfl
      have hYs : Y.size = s.size - g := by rw [← hY, ← bs_len, bs_extract, List.length_drop, ← Hsl.out, List.take_length]
      have hpl : p.2.size + 7 ≤ s.size - g := by
        have h1 := congrArg List.length hex2
        rw [hYl, hYs] at h1
        simp only [flat, List.length_append, txF_len] at h1
        omega
      have Hcall := Lib.hid (get_good p Y (flat (fs.drop (k + 1)) ++ rest) hp (by rw [hex2]; simp [flat]) wr)
      have hfl2 : (flat (fs.take (k + 1))).length = g + (p.2.size + 7) := by
        rw [hts, flat_app, List.length_append, hfl.out]
        simp only [flat, List.append_nil, txF_len]
      have hex3 : (s.extract (g + (p.2.size + 7)) s.size).data.toList = flat (fs.drop (k + 1)) ++ rest := by
        have h1 : (s.extract (g + (p.2.size + 7)) s.size).data.toList = Y.data.toList.drop (p.2.size + 7) := by
          rw [← hY, bs_extract, bs_extract, ← Hsl.out, List.take_length, List.drop_drop]
        rw [h1, hex2]
        simp only [flat]
        rw [List.append_assoc, ← txF_len p, List.drop_append_length]
      have hsb := hp.2.2
      have Hts := Lib.hid hts
      have Hfl2 := Lib.hid hfl2
      have Hex3 := Lib.hid hex3
      have hkt : (fs.take k).length ≤ 5864062014636 := by rw [List.length_take]; omega
      obtain ⟨pk, pt⟩ := p
      simp only at hpl Hfl2 Hex3 hsb Hcall
      have hpli : ((pt.size + 7 : Nat) : Int) ≤ 4007 := by omega
      have hgp : (g : Int) + ((pt.size + 7 : Nat) : Int) ≤ 1000000000000000000 := by omega
      clear hpe hdr hts hex hex2 hfl hfl2 hex3 hYl hYs hp
      go_wp2_with fail
      refine Hcall.out.mono ?_
      rintro e w2 ⟨rfl, hb2⟩
      have hw2 := hbw.trans (hb2.mono hbw.size)
      have hw3 := hw2.alloc hw2.size (.cells #[.int .i64 pk, .string pt] 37)
      have hw4 := hw3.alloc hw3.size (.cells #[.int .i64 pk, .string pt] 37)
      have hown' : Hid (OwnF ((w2.alloc (.cells #[.int .i64 pk, .string pt] 37)).alloc (.cells #[.int .i64 pk, .string pt] 37)) w.heap.size _ (fs.take k)) := Lib.hid (World.ownsRow.alloc (World.ownsRow.alloc (own_below hown.out hb2) _) _)
      have hB8 : w.heap.size ≤ (w2.alloc (.cells #[.int .i64 pk, .string pt] 37)).heap.size := hw3.size
      clear hb2 hown
      go_wp2_with (first | (at_builtin; go_loud (refine wpList_app_fm (w2.alloc (.cells #[.int .i64 pk, .string pt] 37)) pk pt rfl (.tmp 21) (.tmp 23) rfl w.heap.size _ (fs.take k) rfl hown'.out 1 (w2.heap.size + 1) (by simp) rfl hkt hB8 ?_; intro v8 w8 k1 k2 k3)))
      have hw9 := hw4.trans k2
      rw [← Hts.out] at k1
      have K1 := Lib.hid k1
      clear k1 k3
      go_roundw
      case rel => exact ⟨k + 1, g + (pt.size + 7), by omega, by go_num, by omega, K1, Hfl2, Hex3, hw9⟩
      case measure => simp [intOf]; omega
    · obtain rfl : k = N := by omega
      have hex2 := hex.out
      rw [List.drop_eq_nil_of_le (by have := HN.out; omega)] at hex2
      have hb := get_bad Y (by rw [hex2]; exact Hr.out) wr
      have hown2 := hown.out
      rw [List.take_of_length_le (by have := HN.out; omega)] at hown2
      have hfl2 := hfl.out
      rw [List.take_of_length_le (by have := HN.out; omega), HG.out] at hfl2
      subst hfl2
      obtain ⟨A9, c9, hv9, hr9⟩ := hown2.rd
      rw [HN.out] at hv9 hr9
      have Hr9 := Lib.hid hr9
      have Hb := Lib.hid hb
      subst hv9
      clear hb hex hex2 hown hown2 hfl hr9
      go_wp2_with fail
      refine Hb.out.mono ?_
      rintro e w2 ⟨⟨E, hE, rfl⟩, hb2⟩
      have hne : (E != 0) = true := by simpa using hE
      have hw2 := hbw.trans (hb2.mono hbw.size)
      have hw3 := hw2.alloc hw2.size (.cells #[.int .i64 0, .string ⟨#[]⟩] 37)
      have Hr10 := Lib.hid ((Hr9.out.step hb2).stepA (.cells #[.int .i64 0, .string ⟨#[]⟩] 37))
      clear hb2 hE
      go_wp2_with fail
      go_ret2
      exact ⟨_, _, rfl, Hr10.out, hw3⟩
/-- what Put makes of a frame -/
theorem put_okF (p : Fm) (h : okF p) (w : World) : Calls Try.prog 23 #[.agg #[.int .i64 p.1, .string p.2]] w fun e w' => e = .returned (.tuple #[.string ⟨(txF p).toArray⟩, .int .i64 0]) ∧ Below w.heap.size w w' := by
  obtain ⟨h1, h2, h3⟩ := h
  have := fput_good p.1.toNat p.2 (by omega) (by omega) (by omega) w
  rw [show ((p.1.toNat : Nat) : Int) = p.1 by omega] at this
  exact this
theorem put_noF (p : Fm) (h : ¬ okF p) (w : World) : Calls Try.prog 23 #[.agg #[.int .i64 p.1, .string p.2]] w fun e w' => (∃ E : Int, E ≠ 0 ∧ e = .returned (.tuple #[.string ⟨#[]⟩, .int .i64 E])) ∧ Below w.heap.size w w' := by
  unfold okF at h
  by_cases h1 : p.1 < 1 ∨ 255 < p.1
  · refine (fput_kind p.1 p.2 h1 w).mono ?_
    rintro e w' ⟨rfl, hb⟩
    exact ⟨⟨1, by omega, rfl⟩, hb⟩
  · refine (fput_large p.1 p.2 (by omega) (by omega) (by omega) w).mono ?_
    rintro e w' ⟨rfl, hb⟩
    exact ⟨⟨2, by omega, rfl⟩, hb⟩
end Go.Proofs.Ytcclcgapcnjcdaa
