/- MeetApart's closure, and parts opened with their number. -/
import Derived.Test.YtcclcgapcnjcdaaApart
namespace Go.Proofs.Ytcclcgapcnjcdaa
open Go.ChangeShapes Go.WideShapes Go.RowKit Go.Joins Go.Deep
set_option linter.unusedVariables false
set_option linter.unusedSimpArgs false
set_option maxRecDepth 100000
set_option maxHeartbeats 4000000

theorem apart1_any (x : Int) (b : List Pt) (A : Option Addr) (n c g : Nat) (w : World) (h : RdP w w.heap.size A n c b) (hn : n ≤ 4398046511104) (hc : w.cell? ⟨g, 0, none⟩ = some (.slice A n c)) (R : Bool) (hR : decide (x ∈ plA 0 b) = R) :
    Calls Try.prog 31 #[.int .i64 x, .pointer (some ⟨g, 0, none⟩)] w fun e w' => e = .returned (.bool R) ∧ Below w.heap.size w w' := by
  have H := Lib.hid h
  have HR := Lib.hid hR
  clear h hR
  go_enter Try.func31, Try.ntmps31
  go_wp2_with fail
  refine (places_any b A n c _ H.out hn).mono ?_
  rintro e w1 ⟨A1, n1, c1, rfl, hr, hb⟩
  have Hr := Lib.hid hr
  clear hr
  go_wp2_with fail
  refine (contains_any (plA 0 b) x A1 n1 c1 _ _ Hr.out R HR.out).mono ?_
  rintro e w2 ⟨rfl, rfl⟩
  go_wp2_with fail
  go_ret
  exact ⟨rfl, hb⟩
def anyIn (l K : List Int) : Bool := l.any (fun x => decide (x ∈ K))
theorem anyIn_take (l K : List Int) (k : Nat) (h : k < l.length) : anyIn (l.take (k + 1)) K = (anyIn (l.take k) K || decide (l[k] ∈ K)) := by
  unfold anyIn
  rw [List.take_succ_eq_append_getElem h, List.any_append]
  simp only [List.any_cons, List.any_nil, Bool.or_false]
theorem anyIn_of_at (l K : List Int) (k : Nat) (h : k < l.length) (hc : decide (l[k] ∈ K) = true) : anyIn l K = true := by
  unfold anyIn
  rw [List.any_eq_true]
  exact ⟨l[k], List.getElem_mem h, hc⟩
theorem anyIn_false {l K : List Int} (h : anyIn l K = false) : ∀ x ∈ l, x ∉ K := by
  intro x hx hk
  have : anyIn l K = true := by unfold anyIn; rw [List.any_eq_true]; exact ⟨x, hx, decide_eq_true hk⟩
  rw [h] at this; cases this
theorem iapart_any (l : List Int) (A' : Option Addr) (n' c' : Nat) (b : List Pt) (A : Option Addr) (n c g : Nat) (w : World) (h : RdI w w.heap.size A' n' c' l) (h' : RdP w w.heap.size A n c b) (hn : n ≤ 4398046511104) (hc : w.cell? ⟨g, 0, none⟩ = some (.slice A n c)) (hg : g < w.heap.size) :
    Calls Try.prog 49 #[.slice A' n' c', .func (.func 31) #[] #[.pointer (some ⟨g, 0, none⟩)]] w fun e w' => (∃ i : Int, e = .returned (.int .i64 i) ∧ decide (0 ≤ i) = anyIn l (plA 0 b)) ∧ Below w.heap.size w w' := by
  have hle := h.le
  have H := Lib.hid h
  have H' := Lib.hid h'
  have Hc := Lib.hid hc
  clear h h' hc
  obtain ⟨R, hR⟩ : ∃ R, anyIn l (plA 0 b) = R := ⟨_, rfl⟩
  rw [hR]
  have HR := Lib.hid hR
  clear hR
  go_enter Try.func49, Try.ntmps49
  go_wp2_with fail
  go_loopw [5, 8] (fun x i wr => ∃ (k : Nat), k ≤ n' ∧ i = .int .i64 k ∧ Hid (anyIn (l.take k) (plA 0 b) = false) ∧ Below w.heap.size w wr) (fun _ i _ => n' - (intOf i).toNat)
  case atStart => exact ⟨0, by omega, rfl, Lib.hid (by simp [anyIn]), Below.refl _ _⟩
  case round =>
    obtain ⟨k, hk, rfl, hnc, hbw⟩ := hrel
    by_cases hlt : k < n'
    · have hkl : k < l.length := by have := H.out.1; omega
      obtain ⟨b1, o, rfl, hb1, hcell⟩ := (H.out.below hbw).at_ k hlt
      have hts := Lib.hid (anyIn_take l (plA 0 b) k hkl)
      have hof := Lib.hid (anyIn_of_at l (plA 0 b) k hkl)
      generalize l[k] = y at *
      obtain ⟨r, hr⟩ : ∃ r, decide (y ∈ plA 0 b) = r := ⟨_, rfl⟩
      have Hr := Lib.hid hr
      have hk0 : (0 : Int) ≤ (k : Int) := by omega
      have hkn : (k : Int) < (n' : Int) := by omega
      have hcall := apart1_any y b A n c g wr ((H'.out.below hbw).more hbw.size) hn ((hbw.cell (p := ⟨g, 0, none⟩) hg).trans Hc.out) r hr
      have Hcall := Lib.hid hcall
      clear hr hcall
      go_wp2_with fail
      refine Hcall.out.mono ?_
      rintro e w2 ⟨rfl, hb2⟩
      have hw2 := hbw.trans (hb2.mono hbw.size)
      clear hb2
      cases r with
      | false =>
        go_wp2_with fail
        go_roundw
        case rel => exact ⟨k + 1, by omega, by go_num, Lib.hid (by rw [hts.out, hnc.out, Hr.out]; rfl), hw2⟩
        case measure => simp [intOf]; omega
      | true =>
        have hRt : R = true := by rw [← HR.out]; exact hof.out Hr.out
        subst hRt
        go_wp2_with fail
        go_ret
        exact ⟨⟨(k : Int), rfl, by simp⟩, hw2⟩
    · have hRf : R = false := by
        rw [← HR.out]
        have := hnc.out
        rwa [List.take_of_length_le (by have := H.out.1; omega)] at this
      subst hRf
      go_wp2_with fail
      go_ret
      exact ⟨⟨-1, rfl, by decide⟩, hbw⟩
theorem capart_any (l : List Int) (A' : Option Addr) (n' c' : Nat) (b : List Pt) (A : Option Addr) (n c g : Nat) (w : World) (h : RdI w w.heap.size A' n' c' l) (h' : RdP w w.heap.size A n c b) (hn : n ≤ 4398046511104) (hc : w.cell? ⟨g, 0, none⟩ = some (.slice A n c)) (hg : g < w.heap.size) (R : Bool) (hR : anyIn l (plA 0 b) = R) :
    Calls Try.prog 19 #[.slice A' n' c', .func (.func 31) #[] #[.pointer (some ⟨g, 0, none⟩)]] w fun e w' => e = .returned (.bool R) ∧ Below w.heap.size w w' := by
  have hi := iapart_any l A' n' c' b A n c g w h h' hn hc hg
  rw [hR] at hi
  have Hi := Lib.hid hi
  clear hi h h' hc hR
  go_enter Try.func19, Try.ntmps19
  go_wp2_with fail
  refine Hi.out.mono ?_
  rintro e w1 ⟨⟨i, rfl, hi⟩, hb⟩
  have Hh := Lib.hid hi
  clear hi
  go_wp2_with fail
  go_ret
  exact ⟨by rw [← Hh.out]; rfl, hb⟩
/-- a list of parts as it came in, no longer than an allocation may be -/
def IsPartsB (w : World) (v : Value) (l : List Pt) : Prop := ∃ A n c, v = .slice A n c ∧ RdP w w.heap.size A n c l ∧ n ≤ 4398046511104
section
variable {H : Type} {enc : TypeId × Value → H} {w : World} {base : Nat} {spare : Nat → Bool} {held : Bool}
theorem open_partsB_said {r : Reach} {b0 : Nat} {v : Value} {d : DataW H} {p : List MemPlace} (hv : Value.okWide Try.prog w r b0 45 v) (h : DataW.Trod enc Try.prog w base spare held 45 v d p) (h2 : ∀ x ∈ p, x.block < w.heap.size)
    (hb : ∀ x ∈ DataW.weights Try.prog 45 d, x ≤ 140737488351232) : ∃ x, IsPartsB w v x := by
  obtain ⟨x, A, n, c, rfl, hr⟩ := open_parts_said hv h h2 hb
  refine ⟨x, A, n, c, rfl, hr, ?_⟩
  obtain ⟨fuel, hf⟩ := h
  rcases open_slice_fields Try.underlying45 Try.underlying56 (by kernel_rfl) (by kernel_rfl) hf with ⟨hc, _⟩ | ⟨a, len, cap, m, D, Pl, hc, _, h1, _, h3, hx, _⟩
  · injection hc with hc _
    injection hc with e1 e2 e3
    omega
  · injection hc with hc _
    injection hc with e1 e2 e3
    have hl : len ≤ m := by rw [h3]; split <;> omega
    have hd : d = .slice ((List.range len).map D) ((List.range (m - len)).map fun j => D (len + j)) := congrArg Prod.fst hx
    have hbo : Try.prog.bytesOf 56 = 32 := by kernel_rfl
    have := hb ((((List.range len).map D).length + ((List.range (m - len)).map fun j => D (len + j)).length) * 32) (by
      rw [hd]
      simp only [DataW.weights, Try.underlying45, hbo]
      exact List.mem_cons_self)
    simp only [List.length_map, List.length_range] at this
    omega
end
end Go.Proofs.Ytcclcgapcnjcdaa
