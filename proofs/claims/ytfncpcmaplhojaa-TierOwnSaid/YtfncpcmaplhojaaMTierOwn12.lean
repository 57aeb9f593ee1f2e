/- A strings.Builder that a call makes itself: written and read. What apply.Do says; plain lists, no program. Contracts of apply.Fits, apply.Do. Rows of parts of the call's own, short, of short texts. Rows of deltas of the call's own. Histories; plain lists, no program. What turn.Of says; plain lists, no program. -/
import Derived.Test.YtfncpcmaplhojaaMTierOwn4
import Derived.Test.YtfncpcmaplhojaaShelf
import Derived.Lib.Builder
import Derived.Test.YtfncpcmaplhojaaMTierOwn6
import Derived.Test.YtfncpcmaplhojaaMTierOwn7
import Derived.Test.YtfncpcmaplhojaaMTierOwn9
import Derived.Test.YtfncpcmaplhojaaMTierOwn11
import Derived.Test.YtfncpcmaplhojaaMTierOwn8
namespace Go.Proofs.Ytfncpcmaplhojaa
open Go.ChangeShapes Go.WideShapes Go.RowKit
set_option linter.unusedVariables false
set_option linter.unusedSimpArgs false
set_option maxRecDepth 100000
set_option maxHeartbeats 4000000

theorem Try.builderSize : (Try.prog.info? 114).map (·.size) = some 2 := by kernel_rfl
theorem Try.builderLies : liesAt Try.prog Try.prog.depth 114 (2 / Try.prog.cellsOf 114) 0 114 1 = true := by kernel_rfl
theorem blk_shape {w : World} {b : Nat} {t : TypeId} {x y : Value} (h : Blk w b t #[x, y]) : w.shape? b = some (t, 2) := by
  unfold Blk at h
  simp [World.shape?, h]
theorem bcheck_fresh (b : Nat) (v : Value) (w : World) (h : Blk w b 114 #[.pointer none, v]) :
    Calls Try.prog 96 #[.pointer (some ⟨b, 0, none⟩)] w fun e w' => e = .returned (.tuple #[]) ∧ w' = w.setCell ⟨b, 0, none⟩ (.pointer (some ⟨b, 0, none⟩)) := by
  obtain ⟨j, hj, hjs⟩ := Option.map_eq_some_iff.1 Try.builderSize
  have hsh := blk_shape h
  have c0 := h.cell 0
  have f0 := h.frozen 0
  have l0 := h.lt
  clear h
  go_enter Try.func96, Try.ntmps96
  go_wp2_with fail
  rw [Lib.run_to_unsafe w ⟨b, 0, none⟩ Try.underlying111 Try.underlying192 hj (by rw [hjs]; decide) hsh (Nat.zero_lt_succ 1)]
  simp only [Result.andThen]
  rw [Oper.upon_value]
  go_wp2_with fail
  rw [run_callFunc_extern Try.func111 (by kernel_rfl) (by kernel_rfl) (by kernel_rfl) (e := Extern.AbiNoEscape.same) (by kernel_rfl)]
  rw [Lib.run_noEscape]
  simp only [Result.andThen]
  rw [Oper.upon_value]
  go_wp2_with fail
  rw [Lib.run_from_unsafe w ⟨b, 0, none⟩ Try.underlying192 Try.underlying111 hj hsh Try.builderLies]
  simp only [Result.andThen]
  rw [Oper.upon_value]
  go_wp2_with fail
  go_end0
  exact ⟨rfl, rfl⟩
theorem bcheck_used (b : Nat) (v : Value) (w : World) (h : Blk w b 114 #[.pointer (some ⟨b, 0, none⟩), v]) :
    Calls Try.prog 96 #[.pointer (some ⟨b, 0, none⟩)] w fun e w' => e = .returned (.tuple #[]) ∧ w' = w := by
  obtain ⟨j, hj, hjs⟩ := Option.map_eq_some_iff.1 Try.builderSize
  have c0 := h.cell 0
  clear h
  go_enter Try.func96, Try.ntmps96
  go_wp2_with fail
  rw [Lib.run_neq_ptr_same w _ Try.underlying111 hj]
  go_wp2_with fail
  go_end0
  exact ⟨rfl, rfl⟩
/-- the builder at block b holds the bytes l -/
def Bd (w : World) (B b : Nat) (l : List UInt8) : Prop := Lib.IsBuilder 114 5 B b (Lib.byteCells l) w
theorem Bd.fresh (w : World) : Bd (w.alloc (.cells #[.pointer none, .slice none 0 0] 114)) w.heap.size w.heap.size [] :=
  .inl ⟨Nat.le_refl _, _, heap_alloc_new w _, World.ownsRow_nil _ _ _ _, by simp [Value.ownBlock]⟩
theorem Bd.fresh_ (w : World) {B : Nat} (hB : B ≤ w.heap.size) : Bd (w.alloc (.cells #[.pointer none, .slice none 0 0] 114)) B w.heap.size [] :=
  .inl ⟨hB, _, heap_alloc_new w _, World.ownsRow_nil _ _ _ _, by simp [Value.ownBlock]⟩
/-- other blocks, but rows of bytes, stand -/
def BK (b : Nat) (w w' : World) : Prop := ∀ g t cs, Blk w g t cs → t ≠ 5 → g ≠ b → Blk w' g t cs
theorem BK.trans {b : Nat} {w w' w'' : World} (h : BK b w w') (h' : BK b w' w'') : BK b w w'' := fun g t cs h1 h2 h3 => h' g t cs (h g t cs h1 h2 h3) h2 h3
theorem bcheck_any (B b : Nat) (bs : List Value) (w : World) (h : Lib.IsBuilder 114 5 B b bs w) :
    Calls Try.prog 96 #[.pointer (some ⟨b, 0, none⟩)] w fun e w' => e = .returned (.tuple #[]) ∧ Lib.BuilderAt 114 5 B b (.pointer (some ⟨b, 0, none⟩)) bs w' ∧ Below B w w' ∧ BK b w w' := by
  rcases h with h | h
  · obtain ⟨hB, v, hbk, ho, hne⟩ := h
    refine (bcheck_fresh b v w hbk).mono ?_
    rintro e w' ⟨rfl, rfl⟩
    exact ⟨rfl, Lib.BuilderAt.used ⟨hB, v, hbk, ho, hne⟩ _, (Below.refl B w).setCell (p := ⟨b, 0, none⟩) hB _, fun g t cs h1 h2 h3 => h1.far h3 _⟩
  · obtain ⟨hB, v, hbk, ho, hne⟩ := h
    refine (bcheck_used b v w hbk).mono ?_
    rintro e w' ⟨rfl, rfl⟩
    exact ⟨rfl, ⟨hB, v, hbk, ho, hne⟩, Below.refl B _, fun g t cs h1 h2 h3 => h1⟩
theorem Try.info_u8b : (Try.prog.info? 5).map (fun i => (i.zero, i.size, i.bytes)) = some (some (.int .u8 0), 1, 1) := by kernel_rfl
theorem bwrite_any (B b : Nat) (l : List UInt8) (s : ByteArray) (w : World) (h : Bd w B b l) (hlen : l.length + s.size ≤ 140737488355328) (hBw : B ≤ w.heap.size) :
    Calls Try.prog 61 #[.pointer (some ⟨b, 0, none⟩), .string s] w fun e w' => e = .returned (.tuple #[.int .i64 s.size, .nilIface]) ∧ Bd w' B b (l ++ s.data.toList) ∧ Below B w w' ∧ BK b w w' := by
  obtain ⟨i0, hi, hz0, hz1, hz2⟩ := info_parts Try.info_u8b
  have Hh := Lib.hid h
  have hs : s.size ≤ 9223372036854775807 := by omega
  clear h
  have hll : (Lib.byteCells l).length = l.length := by simp [Lib.byteCells]
  go_enter Try.func61, Try.ntmps61
  go_wp2_with fail
  refine (bcheck_any B b _ _ Hh.out).mono ?_
  rintro e w1 ⟨rfl, ⟨hB, v, hbk, hown, hne⟩, hb1, hbk1⟩
  have Hbk1 := Lib.hid hbk1
  clear hbk1
  have kb : Blk w1 b 114 #[.pointer (some ⟨b, 0, none⟩), v] := hbk
  have c0 := kb.cell 0
  have c1 := kb.cell 1
  have l1 := kb.lt
  have hBw1 : B ≤ w1.heap.size := by have := hb1.size; omega
  have Kb := Lib.hid kb
  have Hown := Lib.hid hown
  clear kb hbk hown
  go_wp2_with (at_builtin; refine Lib.wpList_append_own_string _ rfl _ _ 112 9 rfl B 5 i0 Try.underlying112 Try.underlying9 hi hz0 hz1 hz2 _ _ _ rfl Hown.out s rfl ?c3 ?c4 ?c5 ?_)
  case c3 => unfold maxLen; omega
  case c4 => omega
  case c5 => exact hBw1
  intro v' w2 hown' hgrow _
  have kb2 := Kb.out.grown hgrow (Ne.symm hne)
  have hge := own_ge Hown.out
  have hne2 : v'.ownBlock ≠ some b := own_blk_ne (t := 114) hown' kb2 (by decide)
  have hb2 : Below B w1 w2 := below_grown hgrow hBw1 hge
  have d0 := kb2.cell 0
  have d1 := kb2.cell 1
  have f1 := kb2.frozen 1
  have l2 := kb2.lt
  obtain ⟨ao, n', cap, rfl⟩ : ∃ ao n' cap, v' = .slice ao n' cap := by
    rcases hown'.2 with ⟨rfl, _⟩ | ⟨g, cap, cur, rfl, _⟩
    · exact ⟨_, _, _, rfl⟩
    · exact ⟨_, _, _, rfl⟩
  have Kb2 := Lib.hid kb2
  have Hown2 := Lib.hid hown'
  have hbelow := hb1.trans hb2
  have Hbk2 : Hid (BK b w1 w2) := Lib.hid fun g t cs h1 h2 h3 => h1.grown hgrow (own_blk_ne (t := t) Hown.out h1 (Ne.symm h2)).symm
  clear kb2 hown' hgrow hb1 hb2 c0 c1
  go_wp2_with fail
  go_ret2
  refine ⟨rfl, ?_, hbelow.trans ((Below.refl B w2).setCell (p := ⟨b, 1, none⟩) hB _), (Hbk1.out.trans Hbk2.out).trans fun g t cs h1 h2 h3 => h1.far h3 _⟩
  refine .inr ⟨hB, _, Kb2.out.set_ 1 _, ?_, hne2⟩
  have h1 := own_only (w' := w2.setCell ⟨b, 1, none⟩ (.slice ao n' cap)) (S := fun k => k = b) Hown2.out ⟨rfl, rfl, rfl, by simp [World.setCell], fun k _ hs => Below.heap_setCell w2 _ _ k fun e => hs e⟩ fun k hk e => hne2 (by rw [hk, e])
  have e1 : Lib.byteCells l ++ Lib.strCells s = Lib.byteCells (l ++ s.data.toList) := by simp [Lib.byteCells, Lib.strCells]
  rw [e1] at h1
  have e2 : (Lib.byteCells (l ++ s.data.toList)).length = l.length + s.size := by simp [Lib.byteCells]
  rw [e2]
  exact h1
theorem bstring_any (B b : Nat) (l : List UInt8) (w : World) (h : Bd w B b l) (hBw : B ≤ w.heap.size) :
    Calls Try.prog 62 #[.pointer (some ⟨b, 0, none⟩)] w fun e w' => e = .returned (.string ⟨l.toArray⟩) ∧ Below B w w' := Go.Proofs.Try.Builder_String_any B b l w h hBw
theorem Bd.alloc {w : World} {B b : Nat} {l : List UInt8} (h : Bd w B b l) (o : Obj) : Bd (w.alloc o) B b l := by
  rcases h with ⟨hB, v, hbk, ho, hne⟩ | ⟨hB, v, hbk, ho, hne⟩
  · exact .inl ⟨hB, v, Blk.alloc (t := 114) hbk o, ho.alloc o, hne⟩
  · exact .inr ⟨hB, v, Blk.alloc (t := 114) hbk o, ho.alloc o, hne⟩
end Go.Proofs.Ytfncpcmaplhojaa
namespace Go.Proofs.Ytfncpcmaplhojaa
set_option linter.unusedVariables false
set_option linter.unusedSimpArgs false

def fitsE (d : List Pt) (n : Int) : Int := if chk d ≠ 0 then chk d else if n ≠ (nI (units d) : Int) then 4 else 0
def doE (d : List Pt) (s : ByteArray) : Int := fitsE d s.size
def doS (d : List Pt) (s : ByteArray) : ByteArray := if doE d s = 0 then ⟨(ap id (units d) s.data.toList).toArray⟩ else ⟨#[]⟩
theorem do_chk {d : List Pt} {s : ByteArray} (h : doE d s = 0) : chk d = 0 ∧ nI (units d) = s.size ∧ doS d s = ⟨(ap id (units d) s.data.toList).toArray⟩ ∧ s.size ≤ 500 := by
  have e : doS d s = ⟨(ap id (units d) s.data.toList).toArray⟩ := by unfold doS; rw [if_pos h]
  unfold doE fitsE at h
  split at h
  · omega
  · split at h
    · omega
    · rename_i h1 h2
      have hk : chk d = 0 := by omega
      have := (chk_parts hk).2.2.2.1
      exact ⟨hk, by omega, e, by omega⟩
theorem do_zero {d : List Pt} {s : ByteArray} (hk : chk d = 0) (hn : nI (units d) = s.size) : doE d s = 0 := by
  unfold doE fitsE; rw [if_neg (by omega), if_neg (by omega)]
theorem do_err {d : List Pt} {s : ByteArray} (h : doE d s ≠ 0) : doS d s = ⟨#[]⟩ := by unfold doS; rw [if_neg h]
theorem do_list {d : List Pt} {s : ByteArray} (h : doE d s = 0) : (doS d s).data.toList = ap id (units d) s.data.toList := by rw [(do_chk h).2.2.1]
theorem do_size {d : List Pt} {s : ByteArray} (h : doE d s = 0) : (doS d s).size = nO (units d) := by
  have h1 := do_chk h
  have h2 : (doS d s).size = (doS d s).data.toList.length := rfl
  rw [h2, do_list h, ap_length id _ _ (by rw [h1.2.1]; rfl)]
theorem do_le {d : List Pt} {s : ByteArray} (h : doE d s = 0) : (doS d s).size ≤ 500 := by
  rw [do_size h]; exact (chk_parts (do_chk h).1).2.2.2.2.1
theorem do_size_any (d : List Pt) (s : ByteArray) : (doS d s).size ≤ 500 := by
  by_cases h : doE d s = 0
  · exact do_le h
  · rw [do_err h]; decide
theorem ba_list {s t : ByteArray} (h : s.data.toList = t.data.toList) : s = t := by
  cases s; cases t; simp at h; simp [h]
theorem do_all {s : ByteArray} (h : s.size ≤ 500) : doE (allL s.size) s = 0 ∧ doS (allL s.size) s = s := by
  have e : doE (allL s.size) s = 0 := do_zero (all_chk _ h) (by rw [all_units, nI_keeps])
  refine ⟨e, ba_list ?_⟩
  rw [do_list e, all_units]
  exact ap_keeps id s.data.toList
/-- what is still to do -/
theorem do_step_keep {N : Nat} {t : ByteArray} {l : List Pt} {acc r : List UInt8} {R : List UInt8} (h : acc ++ ap id (units ((1, (N : Int), t) :: l)) r = R) (hn : nI (units ((1, (N : Int), t) :: l)) = r.length) :
    (acc ++ r.take N) ++ ap id (units l) (r.drop N) = R ∧ nI (units l) = (r.drop N).length ∧ N ≤ r.length := by
  have e : up ((1, (N : Int), t) : Pt) = List.replicate N none := by simp [up]
  rw [units_cons, e] at h hn
  rw [nI_append, nI_keeps] at hn
  have h2 : r = r.take N ++ r.drop N := (List.take_append_drop N r).symm
  have h3 : (r.take N).length = N := by rw [List.length_take]; omega
  have h4 := ap_append id (List.replicate N none) (units l) (r.take N) (r.drop N) (by rw [nI_keeps, h3])
  rw [List.take_append_drop] at h4
  rw [h4] at h
  have h5 := ap_keeps (α := UInt8) id (r.take N)
  rw [h3] at h5
  rw [h5] at h
  refine ⟨by rw [List.append_assoc]; exact h, by rw [List.length_drop]; omega, by omega⟩
theorem ap_cuts {α : Type} (f : UInt8 → α) : ∀ (s : List α), ap f (List.replicate s.length (some none)) s = []
  | [] => rfl
  | x :: s => by rw [List.length_cons, List.replicate_succ]; simp only [ap]; rw [ap_cuts f s]
theorem do_step_cut {N : Nat} {t : ByteArray} {l : List Pt} {acc r : List UInt8} {R : List UInt8} (h : acc ++ ap id (units ((3, (N : Int), t) :: l)) r = R) (hn : nI (units ((3, (N : Int), t) :: l)) = r.length) :
    acc ++ ap id (units l) (r.drop N) = R ∧ nI (units l) = (r.drop N).length ∧ N ≤ r.length := by
  have e : up ((3, (N : Int), t) : Pt) = List.replicate N (some none) := by simp [up]
  rw [units_cons, e] at h hn
  rw [nI_append, nI_cuts] at hn
  have h3 : (r.take N).length = N := by rw [List.length_take]; omega
  have h4 := ap_append id (List.replicate N (some none)) (units l) (r.take N) (r.drop N) (by rw [nI_cuts, h3])
  rw [List.take_append_drop] at h4
  rw [h4] at h
  have h5 := ap_cuts (α := UInt8) id (r.take N)
  rw [h3] at h5
  rw [h5] at h
  exact ⟨by simpa using h, by rw [List.length_drop]; omega, by omega⟩
theorem ap_puts {α : Type} (f : UInt8 → α) (t : List UInt8) (us : List U) (r : List α) : ap f (t.map (fun b => some (some b)) ++ us) r = t.map f ++ ap f us r := by
  induction t with
  | nil => rfl
  | cons x t ih => simp only [List.map_cons, List.cons_append, ap]; rw [ih]
theorem do_step_put {N : Int} {t : ByteArray} {l : List Pt} {acc r : List UInt8} {R : List UInt8} (h : acc ++ ap id (units ((2, N, t) :: l)) r = R) (hn : nI (units ((2, N, t) :: l)) = r.length) :
    (acc ++ t.data.toList) ++ ap id (units l) r = R ∧ nI (units l) = r.length := by
  have e : up ((2, N, t) : Pt) = t.data.toList.map (fun b => some (some b)) := by simp [up]
  have h0 : nI (t.data.toList.map (fun b => (some (some b) : U))) = 0 := nI_pu t
  rw [units_cons, e] at h hn
  rw [nI_append, h0] at hn
  rw [ap_puts] at h
  exact ⟨by rw [List.append_assoc]; simpa using h, by omega⟩
end Go.Proofs.Ytfncpcmaplhojaa
namespace Go.Proofs.Ytfncpcmaplhojaa
open Go.ChangeShapes Go.WideShapes Go.RowKit
set_option linter.unusedVariables false
set_option linter.unusedSimpArgs false
set_option maxRecDepth 100000
set_option maxHeartbeats 4000000

theorem fits_any (l : List Pt) (A : Option Addr) (n c B : Nat) (m : Nat) (w : World) (h : RdP w B A n c l) (hB : B ≤ w.heap.size) :
    Calls Try.prog 60 #[.slice A n c, .int .i64 m] w fun e w' => e = .returned (.int .i64 (fitsE l m)) ∧ Below w.heap.size w w' := by
  have H := Lib.hid h
  clear h
  by_cases hk : chk l = 0
  · have Hk := Lib.hid hk
    by_cases hm : m = nI (units l)
    · have e : fitsE l m = 0 := by unfold fitsE; rw [if_neg (by omega), if_neg (by omega)]
      rw [e]
      have hc := psizes_good l A n c B w H.out hB hk
      rw [← hm] at hc
      have Hc := Lib.hid hc
      clear hc hk e hm
      go_enter Try.func60, Try.ntmps60
      go_wp2_with fail
      refine Hc.out.mono ?_
      rintro e w1 ⟨rfl, hb⟩
      go_wp2_with fail
      go_ret
      exact ⟨rfl, hb⟩
    · have e : fitsE l m = 4 := by unfold fitsE; rw [if_neg (by omega), if_pos (by omega)]
      rw [e]
      have hne : ((m : Int) != (nI (units l) : Int)) = true := by simp; omega
      clear hk e hm
      go_enter Try.func60, Try.ntmps60
      go_wp2_with fail
      refine (psizes_good l A n c B _ H.out hB Hk.out).mono ?_
      rintro e w1 ⟨rfl, hb⟩
      go_wp2_with fail
      go_ret
      exact ⟨rfl, hb⟩
  · have e : fitsE l m = chk l := by unfold fitsE; rw [if_pos hk]
    rw [e]
    have hne : ((chk l) != 0) = true := by simpa using hk
    have Hk := Lib.hid hk
    clear hk e
    go_enter Try.func60, Try.ntmps60
    go_wp2_with fail
    refine (psizes_err l A n c B _ H.out hB Hk.out).mono ?_
    rintro e w1 ⟨rfl, hb⟩
    go_wp2_with fail
    go_ret
    exact ⟨rfl, hb⟩
theorem do_any (l : List Pt) (A : Option Addr) (n c B : Nat) (s : ByteArray) (w : World) (h : RdP w B A n c l) (hB : B ≤ w.heap.size) (hs : s.size ≤ 9223372036854775807) :
    Calls Try.prog 22 #[.slice A n c, .string s] w fun e w' => e = .returned (.tuple #[.string (doS l s), .int .i64 (doE l s)]) ∧ Below w.heap.size w w' := by
  have H := Lib.hid h
  have hcall : ∀ w' , RdP w' B A n c l → B ≤ w'.heap.size → Calls Try.prog 60 #[.slice A n c, .int .i64 s.size] w' fun e w'' => e = .returned (.int .i64 (doE l s)) ∧ Below w'.heap.size w' w'' := fun w' h1 h2 => fits_any l A n c B s.size w' h1 h2
  have Hcall := Lib.hid hcall
  clear h hcall
  by_cases he : doE l s = 0
  · obtain ⟨hk, hn, hd, h5⟩ := do_chk he
    rw [he, hd]
    rw [he] at Hcall
    have HF := Lib.hid (chk_parts hk)
    have hn16 : (n : Int) ≤ 1600 := by have := HF.out.1; have := H.out.1; omega
    have hfin : (ap id (units l) s.data.toList).length ≤ 500 := by rw [ap_length id _ _ hn]; exact (chk_parts hk).2.2.2.2.1
    obtain ⟨R, hR⟩ : ∃ R, ap id (units l) s.data.toList = R := ⟨_, rfl⟩
    rw [hR] at hfin ⊢
    have Hfin := Lib.hid hfin
    have hst : ([] : List UInt8) ++ ap id (units l) s.data.toList = R ∧ nI (units l) = s.data.toList.length := ⟨hR, hn⟩
    clear hfin hR
    have Hst := Lib.hid hst
    clear hk hn hd hst he
    go_enter Try.func22, Try.ntmps22
    go_wp2_with fail
    refine (Hcall.out _ H.out hB).mono ?_
    rintro e w1 ⟨rfl, hb1⟩
    have hbb := hb1.alloc hb1.size (.cells #[.pointer none, .slice none 0 0] 114)
    have HBd := Lib.hid (Bd.fresh_ w1 (B := w.heap.size) hb1.size)
    have hsz := hb1.size
    clear hb1
    go_wp2_with fail
    obtain ⟨gb, hgb⟩ : ∃ g, g = w1.heap.size := ⟨_, rfl⟩
    rw [← hgb] at HBd ⊢
    clear hgb
    go_loopw [1, 9, 19] (fun sv pv i wr => ∃ (k : Nat) (acc : List UInt8) (r : ByteArray), k ≤ n ∧ i = .int .i64 k ∧ sv = .string r ∧ r.size ≤ 500 ∧ Hid (Bd wr w.heap.size gb acc) ∧ Hid (acc ++ ap id (units (l.drop k)) r.data.toList = R ∧ nI (units (l.drop k)) = r.data.toList.length) ∧ Below w.heap.size w wr) (fun _ _ i _ => n - (intOf i).toNat)
    case atStart => exact ⟨0, [], s, by omega, rfl, rfl, h5, HBd, Lib.hid (by rw [List.drop_zero]; exact Hst.out), hbb⟩
    case round =>
      obtain ⟨k, acc, r, hk, rfl, rfl, hr5, hbd, hst, hbw⟩ := hrel
      have Hgne : Hid (wr.heap.size ≠ gb) := Lib.hid (by rcases hbd.out with ⟨_, v, hh, _⟩ | ⟨_, v, hh, _⟩ <;> exact Nat.ne_of_gt (Blk.lt (t := 114) hh))
      have hacc : acc.length ≤ 500 := by
        have h1 := Hfin.out
        rw [← hst.out.1, List.length_append] at h1
        omega
      by_cases hlt : k < n
      · have hkl : k < l.length := by have := H.out.1; omega
        obtain ⟨g, o, rfl, hg, c0, c1, c2⟩ := (H.out.below (hbw.mono hB)).at_ k hlt
        have hbd2 := fit_bounds _ (HF.out.2.2.2.2.2 l[k] (List.getElem_mem hkl))
        have hdr : l.drop k = l[k] :: l.drop (k + 1) := List.drop_eq_getElem_cons hkl
        rw [hdr] at hst
        obtain ⟨p, hp⟩ : ∃ p, p = l[k] := ⟨_, rfl⟩
        rw [← hp] at hbd2 hst c0 c1 c2
        clear hp hdr
        obtain ⟨kd, m, t⟩ := p
        simp only at hbd2 c0 c1 c2
        have hk0 : (0 : Int) ≤ (k : Int) := by omega
        have hkn : (k : Int) < (n : Int) := by omega
        have hgl : g < wr.heap.size := by have := hbw.size; omega
        have hw1 := hbw.alloc hbw.size (.cells #[.int .i64 kd, .int .i64 m, .string t] 45)
        have hbd3 := Lib.hid (hbd.out.alloc (.cells #[.int .i64 kd, .int .i64 m, .string t] 45))
        have hpb := Blk.new wr 45 #[.int .i64 kd, .int .i64 m, .string t]
        have Hpb := Lib.hid hpb
        clear hpb
        rcases hbd2 with ⟨rfl | rfl, h1, h2, rfl⟩ | ⟨rfl, rfl, h1, h2⟩
        · obtain ⟨z, rfl⟩ := Int.eq_ofNat_of_zero_le (show 0 ≤ m by omega)
          obtain ⟨q1, q2, q3⟩ := do_step_keep hst.out.1 hst.out.2
          have hzr : (z : Int) ≤ (r.size : Int) := by have : r.data.toList.length = r.size := rfl; omega
          have hz0 : (0 : Int) ≤ (z : Int) := by omega
          have hzt : ((z : Int)).toNat = z := by omega
          have e1 : (r.extract 0 z).data.toList = r.data.toList.take z := by rw [bs_extract]; simp
          have e2 : (r.extract z r.size).data.toList = r.data.toList.drop z := by rw [bs_extract, ← bs_len, List.take_length]
          have hs2 : (r.extract z r.size).size ≤ 500 := by rw [← bs_len, e2, List.length_drop, bs_len]; omega
          have hs1 : (r.extract 0 z).size ≤ 500 := by rw [← bs_len, e1, List.length_take, bs_len]; omega
          have Hq : Hid ((acc ++ (r.extract 0 z).data.toList) ++ ap id (units (l.drop (k + 1))) (r.extract z r.size).data.toList = R ∧ nI (units (l.drop (k + 1))) = (r.extract z r.size).data.toList.length) := Lib.hid ⟨by rw [e1, e2]; exact q1, by rw [e2]; exact q2⟩
          clear q1 q2 q3 e1 e2 hst
          go_wp2_with fail
          refine (bwrite_any _ gb acc _ _ hbd3.out (by omega) hw1.size).mono ?_
          rintro e w2 ⟨rfl, hbd4, hb2, hbk2⟩
          have hw2 := hw1.trans hb2
          have Hbd4 := Lib.hid hbd4
          have hp2 := hbk2 _ _ _ Hpb.out (by decide) Hgne.out
          have d1 := hp2.cell 1
          have l2 := hp2.lt
          clear hbd4 hb2 hbk2 hp2 hbd3 Hpb hbd
          go_wp2_with fail
          go_roundw
          case rel => exact ⟨k + 1, _, _, by omega, by go_num, rfl, hs2, Hbd4, Hq, hw2⟩
          case measure => simp [intOf]; omega
        · obtain ⟨z, rfl⟩ := Int.eq_ofNat_of_zero_le (show 0 ≤ m by omega)
          obtain ⟨q1, q2, q3⟩ := do_step_cut hst.out.1 hst.out.2
          have hzr : (z : Int) ≤ (r.size : Int) := by have : r.data.toList.length = r.size := rfl; omega
          have hz0 : (0 : Int) ≤ (z : Int) := by omega
          have hzt : ((z : Int)).toNat = z := by omega
          have e2 : (r.extract z r.size).data.toList = r.data.toList.drop z := by rw [bs_extract, ← bs_len, List.take_length]
          have hs2 : (r.extract z r.size).size ≤ 500 := by rw [← bs_len, e2, List.length_drop, bs_len]; omega
          have Hq : Hid (acc ++ ap id (units (l.drop (k + 1))) (r.extract z r.size).data.toList = R ∧ nI (units (l.drop (k + 1))) = (r.extract z r.size).data.toList.length) := Lib.hid ⟨by rw [e2]; exact q1, by rw [e2]; exact q2⟩
          clear q1 q2 q3 e2 hst Hpb hbd
          go_wp2_with fail
          go_roundw
          case rel => exact ⟨k + 1, _, _, by omega, by go_num, rfl, hs2, hbd3, Hq, hw1⟩
          case measure => simp [intOf]; omega
        · have hq := do_step_put hst.out.1 hst.out.2
          have Hq := Lib.hid hq
          clear hq hst Hpb hbd
          go_wp2_with fail
          refine (bwrite_any _ gb acc _ _ hbd3.out (by omega) hw1.size).mono ?_
          rintro e w2 ⟨rfl, hbd4, hb2, hbk2⟩
          have hw2 := hw1.trans hb2
          have Hbd4 := Lib.hid hbd4
          clear hbd4 hb2 hbk2 hbd3
          go_wp2_with fail
          go_roundw
          case rel => exact ⟨k + 1, _, _, by omega, by go_num, rfl, hr5, Hbd4, Hq, hw2⟩
          case measure => simp [intOf]; omega
      · have hR : acc = R := by
          have h1 := hst.out
          rw [List.drop_eq_nil_of_le (by have := H.out.1; omega)] at h1
          have h2 : r.data.toList = [] := List.eq_nil_of_length_eq_zero (by rw [← h1.2]; rfl)
          rw [h2] at h1
          simpa [units, ap] using h1.1
        subst hR
        go_wp2_with fail
        refine (bstring_any _ gb acc _ hbd.out hbw.size).mono ?_
        rintro e w2 ⟨rfl, hb2⟩
        have hw2 := hbw.trans hb2
        go_wp2_with fail
        go_ret2
        exact ⟨rfl, hw2⟩
  · rw [do_err he]
    have hne : ((doE l s) != 0) = true := by simpa using he
    generalize doE l s = E at *
    clear he
    go_enter Try.func22, Try.ntmps22
    go_wp2_with fail
    refine (Hcall.out _ H.out hB).mono ?_
    rintro e w1 ⟨rfl, hb1⟩
    go_wp2_with fail
    go_ret2
    exact ⟨rfl, hb1⟩
end Go.Proofs.Ytfncpcmaplhojaa
namespace Go.Proofs.Ytfncpcmaplhojaa
open Go.ChangeShapes Go.WideShapes Go.RowKit
set_option linter.unusedVariables false
set_option linter.unusedSimpArgs false
set_option maxRecDepth 100000
set_option maxHeartbeats 4000000

/-- a row of the call's own, short, of short texts -/
structure Mine (w : World) (B : Nat) (v : Value) (l : List Pt) : Prop where
  own : OwnP w B v l
  len : l.length ≤ 1600
  txt : ∀ p ∈ l, p.2.2.size ≤ 140737488351232
theorem small_of {l : List Pt} (h : chk l = 0 ∨ l = []) : l.length ≤ 1600 ∧ ∀ p ∈ l, p.2.2.size ≤ 140737488351232 := by
  rcases h with h | rfl
  · exact ⟨((good_iff l).1 h).1, text_good h⟩
  · exact ⟨by simp, by simp⟩
theorem small_norm (l : List Pt) : chk (normL l) = 0 ∨ normL l = [] := by
  by_cases h : normE l = 0
  · exact .inl (norm_chk h).1
  · exact .inr (norm_err h)
theorem small_comp (a b : List Pt) : chk (compL a b) = 0 ∨ compL a b = [] := by
  by_cases h : compE a b = 0
  · exact .inl (comp_chk h).2.2.2.2
  · exact .inr (comp_err h)
theorem small_meetC (a b : List Pt) : chk (meetC a b) = 0 ∨ meetC a b = [] := by
  by_cases h : meetE a b = 0
  · exact .inl (meet_good h).1
  · exact .inr (meet_err h).1
theorem small_meetD (a b : List Pt) : chk (meetD a b) = 0 ∨ meetD a b = [] := by
  by_cases h : meetE a b = 0
  · exact .inl (meet_good h).2
  · exact .inr (meet_err h).2
theorem Mine.of {w : World} {B : Nat} {v : Value} {l : List Pt} (h : OwnP w B v l) (hs : chk l = 0 ∨ l = []) : Mine w B v l := ⟨h, (small_of hs).1, (small_of hs).2⟩
theorem Mine.step {w w' : World} {B : Nat} {v : Value} {l : List Pt} (h : Mine w B v l) (hb : Below w.heap.size w w') : Mine w' B v l := ⟨h.own.below hb, h.len, h.txt⟩
theorem Mine.only {w w' : World} {B : Nat} {v : Value} {l : List Pt} {S : Nat → Prop} (h : Mine w B v l) (ho : Only w w' S) (hv : ∀ k, v.ownBlock = some k → ¬ S k) : Mine w' B v l := ⟨own_only h.own ho hv, h.len, h.txt⟩
theorem Mine.rd {w : World} {B : Nat} {v : Value} {l : List Pt} (h : Mine w B v l) : ∃ A c, v = .slice A l.length c ∧ RdP w w.heap.size A l.length c l := h.own.rd h.txt
theorem Mine.form {w : World} {B : Nat} {v : Value} {l : List Pt} (h : Mine w B v l) : ∃ A n c, v = .slice A n c := by
  obtain ⟨A, c, e⟩ := h.own.form
  exact ⟨A, _, c, e⟩
theorem Mine.lt {w : World} {B : Nat} {v : Value} {l : List Pt} (h : Mine w B v l) : ∀ k, v.ownBlock = some k → B ≤ k ∧ k < w.heap.size := World.ownsRow.lt h.own
theorem Try.info_pl : (Try.prog.info? 27).map (fun i => (i.zero, i.size, i.bytes)) = some (some (.slice none 0 0), 1, 24) := by kernel_rfl
theorem own_ne_ {w : World} {B B' : Nat} {e e' : TypeId} {size size' n n' : Nat} {v v' : Value} {xs xs' : List Value} (h : w.ownsRow B e size v n xs) (h' : w.ownsRow B' e' size' v' n' xs') (hne : e ≠ e') : v.ownBlock = none ∨ v.ownBlock ≠ v'.ownBlock := by
  rcases h.2 with ⟨rfl, _⟩ | ⟨g, cap, cur, rfl, _, hg, _⟩
  · exact .inl rfl
  · rcases h'.2 with ⟨rfl, _⟩ | ⟨g', cap', cur', rfl, _, hg', _⟩
    · exact .inr (by simp [Value.ownBlock])
    · refine .inr fun he => ?_
      simp only [Value.ownBlock, Option.some.injEq] at he
      subst he
      rw [hg] at hg'
      injection hg' with hg'
      injection hg' with _ h2
      exact hne h2
theorem Mine.grown {w w' : World} {B B' : Nat} {v v' : Value} {l : List Pt} {n' size' : Nat} {xs' : List Value} (h : Mine w B v l) (hr : w.ownsRow B' 27 size' v' n' xs') (hg : w.grownBy w' v'.ownBlock) : Mine w' B v l :=
  ⟨own_kept h.own hg (own_ne_ h.own hr (by decide)), h.len, h.txt⟩
end Go.Proofs.Ytfncpcmaplhojaa
namespace Go.Proofs.Ytfncpcmaplhojaa
open Go.ChangeShapes Go.WideShapes Go.RowKit
set_option linter.unusedVariables false
set_option linter.unusedSimpArgs false
set_option maxRecDepth 100000
set_option maxHeartbeats 4000000

/-- deltas of the call's own -/
structure Deltas (w : World) (B : Nat) (us : List Value) (ls : List (List Pt)) : Prop where
  len : us.length = ls.length
  at_ : ∀ (j : Nat) (u : Value) (l : List Pt), us[j]? = some u → ls[j]? = some l → Mine w B u l
/-- their blocks lie one behind the other -/
def Inc (us : List Value) : Prop := us.Pairwise fun u v => ∀ p q, u.ownBlock = some p → v.ownBlock = some q → p < q
theorem Deltas.nil (w : World) (B : Nat) : Deltas w B [] [] := ⟨rfl, fun j u l h => by simp at h⟩
theorem Deltas.step {w w' : World} {B : Nat} {us : List Value} {ls : List (List Pt)} (h : Deltas w B us ls) (hb : Below w.heap.size w w') : Deltas w' B us ls :=
  ⟨h.len, fun j u l h1 h2 => (h.at_ j u l h1 h2).step hb⟩
theorem Deltas.base {w : World} {B B' : Nat} {us : List Value} {ls : List (List Pt)} (h : Deltas w B us ls) (hB : B' ≤ B) : Deltas w B' us ls :=
  ⟨h.len, fun j u l h1 h2 => ⟨own_base (h.at_ j u l h1 h2).own hB, (h.at_ j u l h1 h2).len, (h.at_ j u l h1 h2).txt⟩⟩
theorem Deltas.grown {w w' : World} {B B' : Nat} {v' : Value} {us : List Value} {ls : List (List Pt)} {n' size' : Nat} {xs' : List Value} {t : TypeId} (h : Deltas w B us ls) (hr : w.ownsRow B' t size' v' n' xs')
    (hg : w.grownBy w' v'.ownBlock) (ht : 45 ≠ t) : Deltas w' B us ls :=
  ⟨h.len, fun j u l h1 h2 => ⟨own_kept (h.at_ j u l h1 h2).own hg (own_ne_ (h.at_ j u l h1 h2).own hr ht), (h.at_ j u l h1 h2).len, (h.at_ j u l h1 h2).txt⟩⟩
theorem Deltas.snoc {w : World} {B : Nat} {us : List Value} {ls : List (List Pt)} {u : Value} {l : List Pt} (h : Deltas w B us ls) (hm : Mine w B u l) : Deltas w B (us ++ [u]) (ls ++ [l]) := by
  refine ⟨by simp [h.len], fun j v m h1 h2 => ?_⟩
  rcases Nat.lt_or_ge j us.length with hj | hj
  · rw [List.getElem?_append_left hj] at h1
    rw [List.getElem?_append_left (by rw [← h.len]; exact hj)] at h2
    exact h.at_ j v m h1 h2
  · rw [List.getElem?_append_right hj] at h1
    rw [List.getElem?_append_right (by rw [← h.len]; exact hj)] at h2
    rw [h.len] at h1
    cases hd : j - ls.length with
    | zero =>
      rw [hd] at h1 h2
      simp only [List.getElem?_cons_zero, Option.some.injEq] at h1 h2
      subst h1; subst h2
      exact hm
    | succ d =>
      rw [hd] at h1
      simp at h1
theorem Deltas.lt {w : World} {B : Nat} {us : List Value} {ls : List (List Pt)} (h : Deltas w B us ls) : ∀ u ∈ us, ∀ k, u.ownBlock = some k → B ≤ k ∧ k < w.heap.size := by
  intro u hu k hk
  obtain ⟨j, hj, rfl⟩ := List.getElem_of_mem hu
  have h1 : us[j]? = some us[j] := List.getElem?_eq_getElem hj
  have h2 : ls[j]? = some (ls[j]'(by rw [← h.len]; exact hj)) := List.getElem?_eq_getElem (by rw [← h.len]; exact hj)
  exact (h.at_ j _ _ h1 h2).lt k hk
theorem Inc.snoc {us : List Value} {u : Value} {N : Nat} (h : Inc us) (h1 : ∀ v ∈ us, ∀ k, v.ownBlock = some k → k < N) (h2 : ∀ k, u.ownBlock = some k → N ≤ k) : Inc (us ++ [u]) := by
  unfold Inc
  rw [List.pairwise_append]
  refine ⟨h, List.pairwise_singleton _ _, fun a ha b hb p q hp hq => ?_⟩
  rw [List.mem_singleton] at hb
  subst hb
  have := h1 a ha p hp
  have := h2 q hq
  omega
/-- a row of deltas -/
def OwnRow (w : World) (B : Nat) (v : Value) (us : List Value) (ls : List (List Pt)) : Prop := w.ownsRow B 27 1 v us.length us ∧ Deltas w B us ls
theorem OwnRow.step {w w' : World} {B : Nat} {v : Value} {us : List Value} {ls : List (List Pt)} (h : OwnRow w B v us ls) (hb : Below w.heap.size w w') : OwnRow w' B v us ls := ⟨own_below h.1 hb, h.2.step hb⟩
theorem OwnRow.base {w : World} {B B' : Nat} {v : Value} {us : List Value} {ls : List (List Pt)} (h : OwnRow w B v us ls) (hB : B' ≤ B) : OwnRow w B' v us ls := ⟨own_base h.1 hB, h.2.base hB⟩
theorem OwnRow.grown {w w' : World} {B B' : Nat} {v v' : Value} {us : List Value} {ls : List (List Pt)} {n' size' : Nat} {xs' : List Value} {t : TypeId} (h : OwnRow w B v us ls) (hr : w.ownsRow B' t size' v' n' xs')
    (hg : w.grownBy w' v'.ownBlock) (ht : 45 ≠ t) (ht2 : 27 ≠ t) : OwnRow w' B v us ls := ⟨own_kept h.1 hg (own_ne_ h.1 hr ht2), h.2.grown hr hg ht⟩
/-- rows of deltas in a row -/
structure OwnTier (w : World) (B : Nat) (v : Value) (rs : List Value) (uss : List (List Value)) (lss : List (List (List Pt))) : Prop where
  own : w.ownsRow B 32 1 v rs.length rs
  len1 : rs.length = lss.length
  len2 : uss.length = lss.length
  at_ : ∀ (j : Nat) (r : Value) (us : List Value) (ls : List (List Pt)), rs[j]? = some r → uss[j]? = some us → lss[j]? = some ls → OwnRow w B r us ls
theorem OwnTier.step {w w' : World} {B : Nat} {v : Value} {rs : List Value} {uss : List (List Value)} {lss : List (List (List Pt))} (h : OwnTier w B v rs uss lss) (hb : Below w.heap.size w w') : OwnTier w' B v rs uss lss :=
  ⟨own_below h.own hb, h.len1, h.len2, fun j r us ls h1 h2 h3 => (h.at_ j r us ls h1 h2 h3).step hb⟩
theorem OwnTier.nil (w : World) (B : Nat) : OwnTier w B (.slice none 0 0) [] [] [] := ⟨World.ownsRow_nil _ _ _ _, rfl, rfl, fun j r us ls h => by simp at h⟩
theorem OwnTier.snoc {w w' : World} {B : Nat} {v v' r : Value} {rs us : List Value} {uss : List (List Value)} {lss : List (List (List Pt))} {ls : List (List Pt)} (h : OwnTier w B v rs uss lss) (hr : OwnRow w B r us ls)
    (ho : w'.ownsRow B 32 1 v' (rs.length + 1) (rs ++ [r])) (hg : w.grownBy w' v.ownBlock) : OwnTier w' B v' (rs ++ [r]) (uss ++ [us]) (lss ++ [ls]) := by
  refine ⟨by simpa using ho, by simp [h.len1], by simp [h.len2], fun j r2 us2 ls2 h1 h2 h3 => ?_⟩
  rcases Nat.lt_or_ge j lss.length with hj | hj
  · rw [List.getElem?_append_left (by rw [h.len1]; exact hj)] at h1
    rw [List.getElem?_append_left (by rw [h.len2]; exact hj)] at h2
    rw [List.getElem?_append_left hj] at h3
    exact (h.at_ j r2 us2 ls2 h1 h2 h3).grown h.own hg (by decide) (by decide)
  · rw [List.getElem?_append_right (by rw [h.len1]; exact hj), h.len1] at h1
    rw [List.getElem?_append_right (by rw [h.len2]; exact hj), h.len2] at h2
    rw [List.getElem?_append_right hj] at h3
    cases hd : j - lss.length with
    | zero =>
      rw [hd] at h1 h2 h3
      simp only [List.getElem?_cons_zero, Option.some.injEq] at h1 h2 h3
      subst h1; subst h2; subst h3
      exact hr.grown h.own hg (by decide) (by decide)
    | succ d =>
      rw [hd] at h1
      simp at h1
end Go.Proofs.Ytfncpcmaplhojaa
namespace Go.Proofs.Ytfncpcmaplhojaa
set_option linter.unusedVariables false
set_option linter.unusedSimpArgs false

/-- a revision: whose, its number, what it does -/
abbrev Rv := Int × Int × List Pt
def oneE (r : Rv) : Int := if r.1 < 0 ∨ 7 < r.1 ∨ r.2.1 < 0 ∨ 2147483647 < r.2.1 then 1 else chk r.2.2
def txr : ByteArray → List Rv → Int
  | _, [] => 0
  | s, r :: l => if oneE r ≠ 0 then oneE r else if doE r.2.2 s ≠ 0 then doE r.2.2 s else txr (doS r.2.2 s) l
def txE (base : ByteArray) (l : List Rv) : Int := if 500 < base.size ∨ 64 < l.length then 2 else txr base l
def txs : ByteArray → List Rv → List ByteArray
  | s, [] => [s]
  | s, r :: l => s :: txs (doS r.2.2 s) l
/-- the text behind k revisions -/
def txt : ByteArray → List Rv → Nat → ByteArray
  | s, _, 0 => s
  | s, [], _ + 1 => s
  | s, r :: l, k + 1 => txt (doS r.2.2 s) l k
theorem txs_len : ∀ (l : List Rv) (s : ByteArray), (txs s l).length = l.length + 1
  | [], s => rfl
  | r :: l, s => by simp only [txs, List.length_cons]; rw [txs_len l]
theorem txs_at : ∀ (l : List Rv) (s : ByteArray) (k : Nat), k ≤ l.length → (txs s l)[k]? = some (txt s l k)
  | [], s, 0, _ => rfl
  | r :: l, s, 0, _ => rfl
  | r :: l, s, k + 1, h => by
    simp only [txs, txt, List.getElem?_cons_succ]
    exact txs_at l _ k (by simpa using h)
theorem txr_take : ∀ (l : List Rv) (s : ByteArray) (k : Nat), txr s l = 0 → txr s (l.take k) = 0
  | [], s, k, h => by simp [txr]
  | r :: l, s, 0, h => by simp [txr]
  | r :: l, s, k + 1, h => by
    simp only [txr] at h
    split at h
    · omega
    · split at h
      · omega
      · rename_i h1 h2
        simp only [List.take_succ_cons, txr]
        rw [if_neg h1, if_neg h2]
        exact txr_take l _ k h
theorem txr_drop : ∀ (l : List Rv) (s : ByteArray) (k : Nat), txr s l = 0 → txr (txt s l k) (l.drop k) = 0
  | [], s, k, h => by simp [txr]
  | r :: l, s, 0, h => h
  | r :: l, s, k + 1, h => by
    simp only [txr] at h
    split at h
    · omega
    · split at h
      · omega
      · simp only [List.drop_succ_cons, txt]
        exact txr_drop l _ k h
theorem txt_size : ∀ (l : List Rv) (s : ByteArray) (k : Nat), s.size ≤ 500 → (txt s l k).size ≤ 500
  | [], s, 0, h => h
  | [], s, k + 1, h => h
  | r :: l, s, 0, h => h
  | r :: l, s, k + 1, h => txt_size l _ k (do_size_any _ _)
theorem txt_take : ∀ (l : List Rv) (s : ByteArray) (k i : Nat), i ≤ k → txt s (l.take k) i = txt s l i
  | [], s, k, i, _ => by simp
  | r :: l, s, k, 0, _ => by cases k <;> simp [txt]
  | r :: l, s, 0, i + 1, h => by omega
  | r :: l, s, k + 1, i + 1, h => by
    simp only [List.take_succ_cons, txt]
    exact txt_take l _ k i (by omega)
theorem txt_drop : ∀ (l : List Rv) (s : ByteArray) (k i : Nat), txt (txt s l k) (l.drop k) i = txt s l (k + i)
  | [], s, 0, i => by simp [txt]
  | [], s, k + 1, i => by
    simp only [txt, List.drop_nil]
    cases i <;> simp [txt]
  | r :: l, s, 0, i => by simp [txt]
  | r :: l, s, k + 1, i => by
    have := txt_drop l (doS r.2.2 s) k i
    simp only [List.drop_succ_cons, txt]
    rw [this, show k + 1 + i = (k + i) + 1 by omega]
    rfl
theorem txE_parts {base : ByteArray} {l : List Rv} (h : txE base l = 0) : base.size ≤ 500 ∧ l.length ≤ 64 ∧ txr base l = 0 := by
  unfold txE at h
  split at h
  · omega
  · rename_i h1
    exact ⟨by omega, by omega, h⟩
theorem txE_zero {base : ByteArray} {l : List Rv} (h1 : base.size ≤ 500) (h2 : l.length ≤ 64) (h : txr base l = 0) : txE base l = 0 := by
  unfold txE; rw [if_neg (by omega)]; exact h
theorem txE_take {base : ByteArray} {l : List Rv} (h : txE base l = 0) (k : Nat) : txE base (l.take k) = 0 := by
  obtain ⟨h1, h2, h3⟩ := txE_parts h
  exact txE_zero h1 (by rw [List.length_take]; omega) (txr_take l base k h3)
theorem txE_drop {base : ByteArray} {l : List Rv} (h : txE base l = 0) (k : Nat) : txE (txt base l k) (l.drop k) = 0 := by
  obtain ⟨h1, h2, h3⟩ := txE_parts h
  exact txE_zero (txt_size l base k h1) (by rw [List.length_drop]; omega) (txr_drop l base k h3)
/-- what has been told of a history, and what is still to do -/
theorem txr_step {s : ByteArray} {r : Rv} {l : List Rv} {E : Int} (h : txr s (r :: l) = E) :
    (oneE r ≠ 0 → E = oneE r) ∧ (oneE r = 0 → doE r.2.2 s ≠ 0 → E = doE r.2.2 s) ∧ (oneE r = 0 → doE r.2.2 s = 0 → txr (doS r.2.2 s) l = E) := by
  simp only [txr] at h
  refine ⟨fun h1 => ?_, fun h1 h2 => ?_, fun h1 h2 => ?_⟩
  · rw [if_pos h1] at h; exact h.symm
  · rw [if_neg (by omega), if_pos h2] at h; exact h.symm
  · rw [if_neg (by omega), if_neg (by omega)] at h; exact h
theorem one_good {r : Rv} (h : oneE r = 0) : chk r.2.2 = 0 := by
  unfold oneE at h
  split at h
  · omega
  · exact h
end Go.Proofs.Ytfncpcmaplhojaa
namespace Go.Proofs.Ytfncpcmaplhojaa
set_option linter.unusedVariables false
set_option linter.unusedSimpArgs false

def turnL (d : List Pt) (s : ByteArray) : List Pt := if doE d s = 0 then grp (cz (tn (units d) s.data.toList)) else []
theorem turn_err {d : List Pt} {s : ByteArray} (h : doE d s ≠ 0) : turnL d s = [] := by unfold turnL; rw [if_neg h]
theorem turn_ok {d : List Pt} {s : ByteArray} (h : doE d s = 0) : turnL d s = grp (cz (tn (units d) s.data.toList)) ∧ chk (turnL d s) = 0 ∧ units (turnL d s) = cz (tn (units d) s.data.toList) ∧ nI (units (turnL d s)) = nO (units d) ∧ nO (units (turnL d s)) = nI (units d) := by
  have e : turnL d s = grp (cz (tn (units d) s.data.toList)) := by unfold turnL; rw [if_pos h]
  obtain ⟨hk, hn, _, h5⟩ := do_chk h
  have hp := chk_parts hk
  have hn' : nI (units d) = s.data.toList.length := hn
  have h1 := nI_tn (units d) s.data.toList hn'
  have h2 := nO_tn (units d) s.data.toList hn'
  have hu : units (turnL d s) = cz (tn (units d) s.data.toList) := by rw [e, units_grp]
  refine ⟨e, ?_, hu, by rw [hu, nI_cz, h1], by rw [hu, nO_cz, h2]⟩
  rw [e]
  exact good_cz (by rw [h1]; exact hp.2.2.2.2.1) (by rw [h2]; exact hp.2.2.2.1)
theorem tn_keeps : ∀ (s : List UInt8), tn (List.replicate s.length none) s = List.replicate s.length none
  | [] => rfl
  | x :: s => by rw [List.length_cons, List.replicate_succ]; simp only [tn]; rw [tn_keeps s]
theorem tn_cuts : ∀ (s : List UInt8), tn (List.replicate s.length (some none)) s = s.map (fun b => some (some b))
  | [] => rfl
  | x :: s => by rw [List.length_cons, List.replicate_succ]; simp only [tn, List.map_cons]; rw [tn_cuts s]
theorem tn_puts (t : List UInt8) (us : List U) (r : List UInt8) : tn (t.map (fun b => some (some b)) ++ us) r = List.replicate t.length (some none) ++ tn us r := by
  induction t with
  | nil => rfl
  | cons x t ih => simp only [List.map_cons, List.cons_append, tn, List.length_cons, List.replicate_succ]; rw [ih]
theorem tn_step_keep {N : Nat} {t : ByteArray} {l : List Pt} {told X : List U} {r : List UInt8} (h : told ++ tn (units ((1, (N : Int), t) :: l)) r = X) (hn : nI (units ((1, (N : Int), t) :: l)) = r.length) :
    (told ++ ku N) ++ tn (units l) (r.drop N) = X ∧ nI (units l) = (r.drop N).length ∧ N ≤ r.length := by
  have e : up ((1, (N : Int), t) : Pt) = List.replicate N none := by simp [up]
  rw [units_cons, e] at h hn
  rw [nI_append, nI_keeps] at hn
  have h3 : (r.take N).length = N := by rw [List.length_take]; omega
  have h4 := tn_append (List.replicate N none) (units l) (r.take N) (r.drop N) (by rw [nI_keeps, h3])
  rw [List.take_append_drop] at h4
  rw [h4] at h
  have h5 := tn_keeps (r.take N)
  rw [h3] at h5
  rw [h5] at h
  exact ⟨by rw [ku_nat, List.append_assoc]; exact h, by rw [List.length_drop]; omega, by omega⟩
theorem tn_step_cut {N : Nat} {t : ByteArray} {l : List Pt} {told X : List U} {r : List UInt8} (h : told ++ tn (units ((3, (N : Int), t) :: l)) r = X) (hn : nI (units ((3, (N : Int), t) :: l)) = r.length) :
    (told ++ (r.take N).map (fun b => some (some b))) ++ tn (units l) (r.drop N) = X ∧ nI (units l) = (r.drop N).length ∧ N ≤ r.length := by
  have e : up ((3, (N : Int), t) : Pt) = List.replicate N (some none) := by simp [up]
  rw [units_cons, e] at h hn
  rw [nI_append, nI_cuts] at hn
  have h3 : (r.take N).length = N := by rw [List.length_take]; omega
  have h4 := tn_append (List.replicate N (some none)) (units l) (r.take N) (r.drop N) (by rw [nI_cuts, h3])
  rw [List.take_append_drop] at h4
  rw [h4] at h
  have h5 := tn_cuts (r.take N)
  rw [h3] at h5
  rw [h5] at h
  exact ⟨by rw [List.append_assoc]; exact h, by rw [List.length_drop]; omega, by omega⟩
theorem tn_step_put {N : Int} {t : ByteArray} {l : List Pt} {told X : List U} {r : List UInt8} (h : told ++ tn (units ((2, N, t) :: l)) r = X) (hn : nI (units ((2, N, t) :: l)) = r.length) :
    (told ++ cu t.size) ++ tn (units l) r = X ∧ nI (units l) = r.length := by
  have e : up ((2, N, t) : Pt) = t.data.toList.map (fun b => some (some b)) := by simp [up]
  have h0 : nI (t.data.toList.map (fun b => (some (some b) : U))) = 0 := nI_pu t
  have h1 : t.data.toList.length = t.size := rfl
  rw [units_cons, e] at h hn
  rw [nI_append, h0] at hn
  rw [tn_puts, h1] at h
  exact ⟨by rw [cu_nat, List.append_assoc]; exact h, by omega⟩
/-- what is done and turned -/
theorem turn_do {d : List Pt} {s : ByteArray} (h : doE d s = 0) : doE (turnL d s) (doS d s) = 0 ∧ doS (turnL d s) (doS d s) = s ∧ turnL (turnL d s) (doS d s) = d := by
  obtain ⟨t1, t2, t3, t4, t5⟩ := turn_ok h
  obtain ⟨hk, hn, _, _⟩ := do_chk h
  have hl := do_list h
  have hn' : nI (units d) = s.data.toList.length := hn
  have e : doE (turnL d s) (doS d s) = 0 := do_zero t2 (by rw [t4, do_size h])
  have hs : (doS d s).data.toList.length = nO (units d) := by rw [← do_size h]; rfl
  refine ⟨e, ba_list ?_, ?_⟩
  · rw [do_list e, t3, hl, ap_cz id _ _ (by rw [nI_tn _ _ hn', ← hs, hl]), ap_tn _ _ hn']
  · rw [(turn_ok e).1, t3, hl, tn_twice _ _ hn', cz_good hk, grp_good hk]
/-- two as one, done -/
theorem comp_do {a b : List Pt} {s : ByteArray} (h1 : doE a s = 0) (h2 : doE b (doS a s) = 0) : compE a b = 0 ∧ doE (compL a b) s = 0 ∧ doS (compL a b) s = doS b (doS a s) := by
  obtain ⟨ka, na, _, _⟩ := do_chk h1
  obtain ⟨kb, nb, _, _⟩ := do_chk h2
  have hab : nO (units a) = nI (units b) := by rw [nb, do_size h1]
  have e := comp_zero ka kb hab
  have e2 : doE (compL a b) s = 0 := do_zero (comp_chk e).2.2.2.2 (by rw [(comp_sizes e).1, na])
  refine ⟨e, e2, ba_list ?_⟩
  have na' : nI (units a) = s.data.toList.length := na
  rw [do_list e2, do_list h2, do_list h1, comp_units e, ap_cz id _ _ (by rw [nI_cmp _ _ hab, na']), ap_cmp id _ _ hab _ na']
theorem turn_comp {a b : List Pt} {s : ByteArray} (h1 : doE a s = 0) (h2 : compE a b = 0) :
    doE (compL a b) s = 0 ∧ doE b (doS a s) = 0 ∧ compE (turnL b (doS a s)) (turnL a s) = 0 ∧ compL (turnL b (doS a s)) (turnL a s) = turnL (compL a b) s := by
  obtain ⟨ka, na, _, _⟩ := do_chk h1
  obtain ⟨_, kb, hab, _, kc⟩ := comp_chk h2
  have na' : nI (units a) = s.data.toList.length := na
  have e1 : doE (compL a b) s = 0 := do_zero kc (by rw [(comp_sizes h2).1, na])
  have e2 : doE b (doS a s) = 0 := do_zero kb (by rw [do_size h1, hab])
  have tb := turn_ok e2
  have ta := turn_ok h1
  have e3 : compE (turnL b (doS a s)) (turnL a s) = 0 := comp_zero tb.2.1 ta.2.1 (by rw [tb.2.2.2.2, ta.2.2.2.1, hab])
  refine ⟨e1, e2, e3, ?_⟩
  rw [(comp_chk e3).2.2.2.1, (turn_ok e1).1, tb.2.2.1, ta.2.2.1, comp_units h2, do_list h1, turn_parts hab _ na']
end Go.Proofs.Ytfncpcmaplhojaa
