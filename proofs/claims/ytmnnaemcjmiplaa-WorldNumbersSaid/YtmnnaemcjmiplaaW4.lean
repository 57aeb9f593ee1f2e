/- A strings.Builder that a call makes itself: written and read. A delta gone through, and two of them: runs of units; plain lists, no program. Laws on deltas as units: right ones, compositions, turns; plain lists, no program. What apply.Do says; plain lists, no program. Contracts of apply.Fits, apply.Do. Histories; plain lists, no program. -/
import Derived.Test.YtmnnaemcjmiplaaW3
import Derived.Test.YtmnnaemcjmiplaaShelf
import Derived.Lib.Builder
import Derived.Test.YtmnnaemcjmiplaaW2
namespace Go.Proofs.Ytmnnaemcjmiplaa
open Go.ChangeShapes Go.WideShapes Go.RowKit
set_option linter.unusedVariables false
set_option linter.unusedSimpArgs false
set_option maxRecDepth 100000
set_option maxHeartbeats 4000000

theorem Try.builderSize : (Try.prog.info? 147).map (·.size) = some 2 := by kernel_rfl
theorem Try.builderLies : liesAt Try.prog Try.prog.depth 147 (2 / Try.prog.cellsOf 147) 0 147 1 = true := by kernel_rfl
theorem blk_shape {w : World} {b : Nat} {t : TypeId} {x y : Value} (h : Blk w b t #[x, y]) : w.shape? b = some (t, 2) := by
  unfold Blk at h
  simp [World.shape?, h]
theorem bcheck_fresh (b : Nat) (v : Value) (w : World) (h : Blk w b 147 #[.pointer none, v]) :
    Calls Try.prog 119 #[.pointer (some ⟨b, 0, none⟩)] w fun e w' => e = .returned (.tuple #[]) ∧ w' = w.setCell ⟨b, 0, none⟩ (.pointer (some ⟨b, 0, none⟩)) := by
  obtain ⟨j, hj, hjs⟩ := Option.map_eq_some_iff.1 Try.builderSize
  have hsh := blk_shape h
  have c0 := h.cell 0
  have f0 := h.frozen 0
  have l0 := h.lt
  clear h
  go_enter Try.func119, Try.ntmps119
  go_wp2_with fail
  rw [Lib.run_to_unsafe w ⟨b, 0, none⟩ Try.underlying144 Try.underlying209 hj (by rw [hjs]; decide) hsh (Nat.zero_lt_succ 1)]
  simp only [Result.andThen]
  rw [Oper.upon_value]
  go_wp2_with fail
  rw [run_callFunc_extern Try.func129 (by kernel_rfl) (by kernel_rfl) (by kernel_rfl) (e := Extern.AbiNoEscape.same) (by kernel_rfl)]
  rw [Lib.run_noEscape]
  simp only [Result.andThen]
  rw [Oper.upon_value]
  go_wp2_with fail
  rw [Lib.run_from_unsafe w ⟨b, 0, none⟩ Try.underlying209 Try.underlying144 hj hsh Try.builderLies]
  simp only [Result.andThen]
  rw [Oper.upon_value]
  go_wp2_with fail
  go_end0
  exact ⟨rfl, rfl⟩
theorem bcheck_used (b : Nat) (v : Value) (w : World) (h : Blk w b 147 #[.pointer (some ⟨b, 0, none⟩), v]) :
    Calls Try.prog 119 #[.pointer (some ⟨b, 0, none⟩)] w fun e w' => e = .returned (.tuple #[]) ∧ w' = w := by
  obtain ⟨j, hj, hjs⟩ := Option.map_eq_some_iff.1 Try.builderSize
  have c0 := h.cell 0
  clear h
  go_enter Try.func119, Try.ntmps119
  go_wp2_with fail
  rw [Lib.run_neq_ptr_same w _ Try.underlying144 hj]
  go_wp2_with fail
  go_end0
  exact ⟨rfl, rfl⟩
/-- the builder at block b holds the bytes l -/
def Bd (w : World) (B b : Nat) (l : List UInt8) : Prop := Lib.IsBuilder 147 5 B b (Lib.byteCells l) w
theorem Bd.fresh_ (w : World) {B : Nat} (hB : B ≤ w.heap.size) : Bd (w.alloc (.cells #[.pointer none, .slice none 0 0] 147)) B w.heap.size [] :=
  .inl ⟨hB, _, heap_alloc_new w _, World.ownsRow_nil _ _ _ _, by simp [Value.ownBlock]⟩
/-- other blocks, but rows of bytes, stand -/
def BK (b : Nat) (w w' : World) : Prop := ∀ g t cs, Blk w g t cs → t ≠ 5 → g ≠ b → Blk w' g t cs
theorem BK.trans {b : Nat} {w w' w'' : World} (h : BK b w w') (h' : BK b w' w'') : BK b w w'' := fun g t cs h1 h2 h3 => h' g t cs (h g t cs h1 h2 h3) h2 h3
theorem bcheck_any (B b : Nat) (bs : List Value) (w : World) (h : Lib.IsBuilder 147 5 B b bs w) :
    Calls Try.prog 119 #[.pointer (some ⟨b, 0, none⟩)] w fun e w' => e = .returned (.tuple #[]) ∧ Lib.BuilderAt 147 5 B b (.pointer (some ⟨b, 0, none⟩)) bs w' ∧ Below B w w' ∧ BK b w w' := by
  rcases h with h | h
  · obtain ⟨hB, v, hbk, ho, hne⟩ := h
    refine (bcheck_fresh b v w hbk).mono ?_
    rintro e w' ⟨rfl, rfl⟩
    exact ⟨rfl, Lib.BuilderAt.used ⟨hB, v, hbk, ho, hne⟩ _, (Below.refl B w).setCell (p := ⟨b, 0, none⟩) hB _, fun g t cs h1 h2 h3 => h1.far h3 _⟩
  · obtain ⟨hB, v, hbk, ho, hne⟩ := h
    refine (bcheck_used b v w hbk).mono ?_
    rintro e w' ⟨rfl, rfl⟩
    exact ⟨rfl, ⟨hB, v, hbk, ho, hne⟩, Below.refl B _, fun g t cs h1 h2 h3 => h1⟩
theorem Try.info_u8b : (Try.prog.info? 5).map (fun i => (i.zero, i.size, i.bytes)) = some (some (.int .u8 0), 1, 1) := by kernel_rfl
theorem bwrite_any (B b : Nat) (l : List UInt8) (s : ByteArray) (w : World) (h : Bd w B b l) (hlen : l.length + s.size ≤ 140737488355328) (hBw : B ≤ w.heap.size) :
    Calls Try.prog 87 #[.pointer (some ⟨b, 0, none⟩), .string s] w fun e w' => e = .returned (.tuple #[.int .i64 s.size, .nilIface]) ∧ Bd w' B b (l ++ s.data.toList) ∧ Below B w w' ∧ BK b w w' := by
  obtain ⟨i0, hi, hz0, hz1, hz2⟩ := info_parts Try.info_u8b
  have Hh := Lib.hid h
  have hs : s.size ≤ 9223372036854775807 := by omega
  clear h
  have hll : (Lib.byteCells l).length = l.length := by simp [Lib.byteCells]
  go_enter Try.func87, Try.ntmps87
  go_wp2_with fail
  refine (bcheck_any B b _ _ Hh.out).mono ?_
  rintro e w1 ⟨rfl, ⟨hB, v, hbk, hown, hne⟩, hb1, hbk1⟩
  have Hbk1 := Lib.hid hbk1
  clear hbk1
  have kb : Blk w1 b 147 #[.pointer (some ⟨b, 0, none⟩), v] := hbk
  have c0 := kb.cell 0
  have c1 := kb.cell 1
  have l1 := kb.lt
  have hBw1 : B ≤ w1.heap.size := by have := hb1.size; omega
  have Kb := Lib.hid kb
  have Hown := Lib.hid hown
  clear kb hbk hown
  go_wp2_with (at_builtin; refine Lib.wpList_append_own_string _ rfl _ _ 145 9 rfl B 5 i0 Try.underlying145 Try.underlying9 hi hz0 hz1 hz2 _ _ _ rfl Hown.out s rfl ?c3 ?c4 ?c5 ?_)
  case c3 => unfold maxLen; omega
  case c4 => omega
  case c5 => exact hBw1
  intro v' w2 hown' hgrow _
  have kb2 := Kb.out.grown hgrow (Ne.symm hne)
  have hge := own_ge Hown.out
  have hne2 : v'.ownBlock ≠ some b := own_blk_ne (t := 147) hown' kb2 (by decide)
  have hb2 : Below B w1 w2 := below_grown hgrow hBw1 hge
  have d0 := kb2.cell 0
  have d1 := kb2.cell 1
  have f1 := kb2.frozen 1
  have l2 := kb2.lt
  obtain ⟨ao, n', cap, rfl⟩ : ∃ ao n' cap, v' = .slice ao n' cap := by
    rcases hown'.2 with ⟨rfl, _⟩ | ⟨g, cap, cur, rfl, _⟩
    · exact ⟨_, _, _, rfl⟩
    · exact ⟨_, _, _, rfl⟩
  have Kb2 := Lib.hid kb2
  have Hown2 := Lib.hid hown'
  have hbelow := hb1.trans hb2
  have Hbk2 : Hid (BK b w1 w2) := Lib.hid fun g t cs h1 h2 h3 => h1.grown hgrow (own_blk_ne (t := t) Hown.out h1 (Ne.symm h2)).symm
  clear kb2 hown' hgrow hb1 hb2 c0 c1
  go_wp2_with fail
  go_ret2
  refine ⟨rfl, ?_, hbelow.trans ((Below.refl B w2).setCell (p := ⟨b, 1, none⟩) hB _), (Hbk1.out.trans Hbk2.out).trans fun g t cs h1 h2 h3 => h1.far h3 _⟩
  refine .inr ⟨hB, _, Kb2.out.set_ 1 _, ?_, hne2⟩
  have h1 := own_only (w' := w2.setCell ⟨b, 1, none⟩ (.slice ao n' cap)) (S := fun k => k = b) Hown2.out ⟨rfl, rfl, rfl, by simp [World.setCell], fun k _ hs => Below.heap_setCell w2 _ _ k fun e => hs e⟩ fun k hk e => hne2 (by rw [hk, e])
  have e1 : Lib.byteCells l ++ Lib.strCells s = Lib.byteCells (l ++ s.data.toList) := by simp [Lib.byteCells, Lib.strCells]
  rw [e1] at h1
  have e2 : (Lib.byteCells (l ++ s.data.toList)).length = l.length + s.size := by simp [Lib.byteCells]
  rw [e2]
  exact h1
theorem bstring_any (B b : Nat) (l : List UInt8) (w : World) (h : Bd w B b l) (hBw : B ≤ w.heap.size) :
    Calls Try.prog 88 #[.pointer (some ⟨b, 0, none⟩)] w fun e w' => e = .returned (.string ⟨l.toArray⟩) ∧ Below B w w' := Go.Proofs.Try.Builder_String_any B b l w h hBw
theorem Bd.alloc {w : World} {B b : Nat} {l : List UInt8} (h : Bd w B b l) (o : Obj) : Bd (w.alloc o) B b l := by
  rcases h with ⟨hB, v, hbk, ho, hne⟩ | ⟨hB, v, hbk, ho, hne⟩
  · exact .inl ⟨hB, v, Blk.alloc (t := 147) hbk o, ho.alloc o, hne⟩
  · exact .inr ⟨hB, v, Blk.alloc (t := 147) hbk o, ho.alloc o, hne⟩
end Go.Proofs.Ytmnnaemcjmiplaa
namespace Go.Proofs.Ytmnnaemcjmiplaa
set_option linter.unusedVariables false
set_option linter.unusedSimpArgs false

/-- what is left of a delta of whose first part 'used' have been taken -/
def rem (l : List Pt) (used : Nat) : List U := (units l).drop used
def adv : List Pt → Nat → Nat → List Pt × Nat
  | p :: r, used, n => if used + n = lenP p then (r, 0) else (p :: r, used + n)
  | [], used, _ => ([], used)
/-- how a walker stands -/
def WOk (l : List Pt) (used : Nat) : Prop := Fine l ∧ (l = [] → used = 0) ∧ ∀ p r, l = p :: r → used < lenP p
theorem rem_zero (l : List Pt) : rem l 0 = units l := rfl
theorem rem_cons {p : Pt} {r : List Pt} {used : Nat} (h : Shape p) (hu : used ≤ lenP p) : rem (p :: r) used = (up p).drop used ++ units r := by
  unfold rem
  rw [units_cons, List.drop_append_of_le_length (by rw [up_len p h]; exact hu)]
theorem rem_adv {p : Pt} {r : List Pt} {used n : Nat} (h : Shape p) (hu : used + n ≤ lenP p) : rem (adv (p :: r) used n).1 (adv (p :: r) used n).2 = (rem (p :: r) used).drop n := by
  simp only [adv]
  split
  · rename_i e
    rw [rem_cons h (by omega), rem_zero, List.drop_append, List.drop_eq_nil_of_le (by rw [List.length_drop, up_len p h]; omega)]
    rw [List.length_drop, up_len p h, show n - (lenP p - used) = 0 by omega]
    simp
  · unfold rem
    rw [List.drop_drop]
theorem wok_adv {p : Pt} {r : List Pt} {used n : Nat} (h : WOk (p :: r) used) (hu : used + n ≤ lenP p) : WOk (adv (p :: r) used n).1 (adv (p :: r) used n).2 := by
  obtain ⟨hf, _, h2⟩ := h
  simp only [adv]
  split
  · refine ⟨fun q hq => hf q (by simp [hq]), fun _ => rfl, fun q s e => ?_⟩
    have e' : r = q :: s := e
    have hs := hf q (by simp [e'])
    show 0 < lenP q
    unfold lenP
    rcases hs with ⟨h1, h2, h3⟩ | ⟨h1, h2, h3⟩
    · rw [if_neg (by omega)]; omega
    · rw [if_pos h1]; omega
  · rename_i hne
    refine ⟨hf, by simp, fun q s e => ?_⟩
    have e' : p = q := by injection e
    subst e'
    have := h2 p r rfl
    show used + n < lenP p
    omega
theorem rem_keep {r : List Pt} {N : Int} {t : ByteArray} {used n : Nat} (h : Shape (1, N, t)) (hu : used + n ≤ N.toNat) :
    rem ((1, N, t) :: r) used = List.replicate n none ++ rem (adv ((1, N, t) :: r) used n).1 (adv ((1, N, t) :: r) used n).2 := by
  have hl : lenP ((1, N, t) : Pt) = N.toNat := by simp [lenP]
  rw [rem_adv h (by rw [hl]; exact hu), rem_cons h (by rw [hl]; omega)]
  simp only [up, if_true, List.drop_replicate]
  rw [show N.toNat - used = n + (N.toNat - used - n) by omega, ← List.replicate_append_replicate, List.append_assoc, List.drop_left' (by simp)]
theorem rem_cut {r : List Pt} {N : Int} {t : ByteArray} {used n : Nat} (h : Shape (3, N, t)) (hu : used + n ≤ N.toNat) :
    rem ((3, N, t) :: r) used = List.replicate n (some none) ++ rem (adv ((3, N, t) :: r) used n).1 (adv ((3, N, t) :: r) used n).2 := by
  have hl : lenP ((3, N, t) : Pt) = N.toNat := by simp [lenP]
  rw [rem_adv h (by rw [hl]; exact hu), rem_cons h (by rw [hl]; omega)]
  have e : up ((3, N, t) : Pt) = List.replicate N.toNat (some none) := rfl
  rw [e, List.drop_replicate]
  rw [show N.toNat - used = n + (N.toNat - used - n) by omega, ← List.replicate_append_replicate, List.append_assoc, List.drop_left' (by simp)]
theorem pu_extract (t : ByteArray) (a b : Nat) : pu (t.extract a b) = ((pu t).take b).drop a := by
  unfold pu
  have e : (t.extract a b).data.toList = (t.data.toList.take b).drop a := by
    rw [ByteArray.data_extract, Array.toList_extract, List.extract_eq_take_drop, List.drop_take]
  rw [e, List.map_drop, List.map_take]
theorem rem_put {r : List Pt} {N : Int} {t : ByteArray} {used n : Nat} (h : Shape (2, N, t)) (hu : used + n ≤ t.size) :
    rem ((2, N, t) :: r) used = pu (t.extract used (used + n)) ++ rem (adv ((2, N, t) :: r) used n).1 (adv ((2, N, t) :: r) used n).2 := by
  have hl : lenP ((2, N, t) : Pt) = t.size := by simp [lenP]
  have hp : (pu t).length = t.size := by simp [pu]
  rw [rem_adv h (by rw [hl]; exact hu), rem_cons h (by rw [hl]; omega)]
  have e : up ((2, N, t) : Pt) = pu t := rfl
  rw [e, pu_extract]
  have e2 : (pu t).drop used = ((pu t).take (used + n)).drop used ++ (pu t).drop (used + n) := by
    conv => lhs; rw [← List.take_append_drop (used + n) (pu t)]
    rw [List.drop_append_of_le_length (by rw [List.length_take]; omega)]
  rw [e2, List.append_assoc, List.drop_left' (by rw [List.length_drop, List.length_take]; omega)]

theorem cmp_cuts (n : Nat) (xs ys : List U) : cmp (List.replicate n (some none) ++ xs) ys = List.replicate n (some none) ++ cmp xs ys := by
  induction n with
  | zero => rfl
  | succ n ih => rw [List.replicate_succ]; simp only [List.cons_append, cmp]; rw [ih]
theorem cmp_puts (s : List UInt8) (xs ys : List U) (h : ∀ r, xs ≠ some none :: r) : cmp xs (s.map (fun b => some (some b)) ++ ys) = s.map (fun b => some (some b)) ++ cmp xs ys := by
  induction s with
  | nil => rfl
  | cons b s ih => simp only [List.map_cons, List.cons_append]; rw [cmp_put _ _ _ h, ih]
theorem cmp_kk (n : Nat) (xs ys : List U) : cmp (List.replicate n none ++ xs) (List.replicate n none ++ ys) = List.replicate n none ++ cmp xs ys := by
  induction n with
  | zero => rfl
  | succ n ih => rw [List.replicate_succ]; simp only [List.cons_append, cmp, lead, rst, List.nil_append]; rw [ih]
theorem cmp_kc (n : Nat) (xs ys : List U) : cmp (List.replicate n none ++ xs) (List.replicate n (some none) ++ ys) = List.replicate n (some none) ++ cmp xs ys := by
  induction n with
  | zero => rfl
  | succ n ih => rw [List.replicate_succ, List.replicate_succ]; simp only [List.cons_append, cmp, lead, rst, List.nil_append]; rw [ih]
theorem cmp_pk (s : List UInt8) (xs ys : List U) : cmp (s.map (fun b => some (some b)) ++ xs) (List.replicate s.length none ++ ys) = s.map (fun b => some (some b)) ++ cmp xs ys := by
  induction s with
  | nil => rfl
  | cons b s ih => rw [List.length_cons, List.replicate_succ]; simp only [List.map_cons, List.cons_append, cmp, lead, rst, List.nil_append]; rw [ih]
theorem cmp_pc (s : List UInt8) (xs ys : List U) : cmp (s.map (fun b => some (some b)) ++ xs) (List.replicate s.length (some none) ++ ys) = cmp xs ys := by
  induction s with
  | nil => rfl
  | cons b s ih => rw [List.length_cons, List.replicate_succ]; simp only [List.map_cons, List.cons_append, cmp, lead, rst, List.nil_append]; rw [ih]
theorem mt_xputs (s : List UInt8) (xs ys : List U) : mt (s.map (fun b => some (some b)) ++ xs) ys = (s.map (fun b => some (some b)) ++ (mt xs ys).1, List.replicate s.length none ++ (mt xs ys).2) := by
  induction s with
  | nil => rfl
  | cons b s ih => simp only [List.map_cons, List.cons_append, mt, List.length_cons, List.replicate_succ]; rw [ih]
theorem mt_yputs (s : List UInt8) (xs ys : List U) (h : ∀ c r, xs ≠ some (some c) :: r) : mt xs (s.map (fun b => some (some b)) ++ ys) = (List.replicate s.length none ++ (mt xs ys).1, s.map (fun b => some (some b)) ++ (mt xs ys).2) := by
  induction s with
  | nil => rfl
  | cons b s ih => simp only [List.map_cons, List.cons_append, List.length_cons, List.replicate_succ]; rw [mt_put _ _ _ h, ih]
theorem mt_kk (n : Nat) (xs ys : List U) : mt (List.replicate n none ++ xs) (List.replicate n none ++ ys) = (List.replicate n none ++ (mt xs ys).1, List.replicate n none ++ (mt xs ys).2) := by
  induction n with
  | zero => rfl
  | succ n ih => rw [List.replicate_succ]; simp only [List.cons_append, mt, lead, rst, List.nil_append, List.map_nil]; rw [ih]
theorem mt_kc (n : Nat) (xs ys : List U) : mt (List.replicate n none ++ xs) (List.replicate n (some none) ++ ys) = ((mt xs ys).1, List.replicate n (some none) ++ (mt xs ys).2) := by
  induction n with
  | zero => rfl
  | succ n ih => rw [List.replicate_succ, List.replicate_succ]; simp only [List.cons_append, mt, lead, rst, List.nil_append, List.map_nil]; rw [ih]
theorem mt_ck (n : Nat) (xs ys : List U) : mt (List.replicate n (some none) ++ xs) (List.replicate n none ++ ys) = (List.replicate n (some none) ++ (mt xs ys).1, (mt xs ys).2) := by
  induction n with
  | zero => rfl
  | succ n ih => rw [List.replicate_succ, List.replicate_succ]; simp only [List.cons_append, mt, lead, rst, List.nil_append, List.map_nil]; rw [ih]
theorem mt_cc (n : Nat) (xs ys : List U) : mt (List.replicate n (some none) ++ xs) (List.replicate n (some none) ++ ys) = mt xs ys := by
  induction n with
  | zero => rfl
  | succ n ih => rw [List.replicate_succ]; simp only [List.cons_append, mt, lead, rst, List.nil_append, List.map_nil]; rw [ih]
theorem len_sizes : ∀ us : List U, us.length ≤ nI us + nO us
  | [] => Nat.le_refl _
  | none :: us => by have := len_sizes us; simp only [List.length_cons, nI, nO]; omega
  | some none :: us => by have := len_sizes us; simp only [List.length_cons, nI, nO]; omega
  | some (some b) :: us => by have := len_sizes us; simp only [List.length_cons, nI, nO]; omega
end Go.Proofs.Ytmnnaemcjmiplaa
namespace Go.Proofs.Ytmnnaemcjmiplaa
set_option linter.unusedVariables false
set_option linter.unusedSimpArgs false

theorem lenP_sizes : ∀ (l : List Pt), Fine l → ∀ p ∈ l, ((p.1 = 1 ∨ p.1 = 3) → p.2.1 ≤ nI (units l)) ∧ (p.1 = 2 → p.2.2.size ≤ nO (units l))
  | [], _, p, hp => by simp at hp
  | q :: l, h, p, hp => by
    have hq := h q (by simp)
    rw [units_cons, nI_append, nO_append]
    rcases List.mem_cons.1 hp with rfl | hp
    · have h1 := nI_up p hq
      have h2 := nO_up p hq
      refine ⟨fun hk => ?_, fun hk => ?_⟩
      · rw [if_pos hk] at h1; omega
      · rw [if_neg (by omega), if_neg (by omega)] at h2; omega
    · have := lenP_sizes l (fun x hx => h x (by simp [hx])) p hp
      exact ⟨fun hk => by have := this.1 hk; omega, fun hk => by have := this.2 hk; omega⟩
/-- of units in their form, not too many, a right delta is made -/
theorem good_grp {us : List U} (hc : Cn us) (hi : nI us ≤ 500) (ho : nO us ≤ 500) : chk (grp us) = 0 := by
  have hf := fine_grp us
  have hu := units_grp us
  have hl : (grp us).length ≤ us.length := by
    have hadd : ∀ (u : U) (l : List Pt), (addU u l).length ≤ l.length + 1 := by
      intro u l
      rcases u with _ | _ | x <;> rcases l with _ | ⟨p, l⟩ <;> simp only [addU] <;> (try split) <;> simp
    have : ∀ us : List U, (grp us).length ≤ us.length := by
      intro us
      induction us with
      | nil => exact Nat.le_refl _
      | cons u us ih => have := hadd u (grp us); simp only [grp, List.length_cons]; omega
    exact this us
  have hs := len_sizes us
  have h1 := nI_units (grp us) hf
  have h2 := nO_units (grp us) hf
  rw [hu] at h1 h2
  have hfit : ∀ p ∈ grp us, fitE p = 0 := by
    intro p hp
    have hb := lenP_sizes (grp us) hf p hp
    rw [hu] at hb
    refine (fitE_zero p).2 ⟨hf p hp, ?_, ?_⟩
    · rcases hf p hp with ⟨h3, _, _⟩ | ⟨_, h4, _⟩
      · have := hb.1 h3; omega
      · omega
    · rcases hf p hp with ⟨_, _, h5⟩ | ⟨h3, _, _⟩
      · rw [h5]; exact Nat.zero_le _
      · have := hb.2 h3; omega
  have h0 : chkL 0 (grp us) = 0 := (chkL_zero _ 0).2 ⟨by
    rcases us with _ | ⟨u, us⟩
    · exact .inr rfl
    · left
      rw [hk_grp]
      rcases u with _ | _ | b <;> simp [kU, one], by omega, adj_grp us hc, hfit⟩
  unfold chk
  rw [if_neg (by omega), if_neg (by omega), if_neg (by omega)]
theorem good_cz {us : List U} (hi : nI us ≤ 500) (ho : nO us ≤ 500) : chk (grp (cz us)) = 0 :=
  good_grp (cn_cz us) (by rw [nI_cz]; exact hi) (by rw [nO_cz]; exact ho)
theorem chk_parts {l : List Pt} (h : chk l = 0) : l.length ≤ 1600 ∧ Adj l ∧ Fine l ∧ nI (units l) ≤ 500 ∧ nO (units l) ≤ 500 ∧ ∀ p ∈ l, fitE p = 0 := by
  unfold chk at h
  split at h
  · omega
  · split at h
    · omega
    · split at h
      · omega
      · rename_i h1 h2 h3
        obtain ⟨_, _, ha, hf⟩ := (chkL_zero l 0).1 (show chkL 0 l = 0 by omega)
        have hfi : Fine l := fun p hp => ((fitE_zero p).1 (hf p hp)).1
        have h4 := nI_units l hfi
        have h5 := nO_units l hfi
        exact ⟨by omega, ha, hfi, by omega, by omega, hf⟩
theorem ap_keeps {α : Type} (f : UInt8 → α) : ∀ (s : List α), ap f (List.replicate s.length none) s = s
  | [] => rfl
  | x :: s => by rw [List.length_cons, List.replicate_succ]; simp only [ap]; rw [ap_keeps f s]
theorem nI_keeps (n : Nat) : nI (List.replicate n none) = n := by
  induction n with
  | zero => rfl
  | succ n ih => rw [List.replicate_succ]; simp only [nI]; rw [ih]
theorem nO_keeps (n : Nat) : nO (List.replicate n none) = n := by
  induction n with
  | zero => rfl
  | succ n ih => rw [List.replicate_succ]; simp only [nO]; rw [ih]
theorem nI_cuts (n : Nat) : nI (List.replicate n (some none)) = n := by
  induction n with
  | zero => rfl
  | succ n ih => rw [List.replicate_succ]; simp only [nI]; rw [ih]
theorem nO_cuts (n : Nat) : nO (List.replicate n (some none)) = 0 := by
  induction n with
  | zero => rfl
  | succ n ih => rw [List.replicate_succ]; simp only [nO]; rw [ih]
theorem nI_pu (s : ByteArray) : nI (pu s) = 0 := by
  unfold pu
  induction s.data.toList with
  | nil => rfl
  | cons x l ih => simpa [nI] using ih
theorem nO_pu (s : ByteArray) : nO (pu s) = s.size := by
  have : ∀ l : List UInt8, nO (l.map (fun b => (some (some b) : U))) = l.length := by
    intro l
    induction l with
    | nil => rfl
    | cons x l ih => simp [nO, ih]
  unfold pu
  rw [this]; rfl

/-- one and what is left of the other -/
theorem meet_same {a b : List U} (h : nI a = nI b) : cz (cmp a (cz (mt a b).2)) = cz (cmp b (cz (mt a b).1)) := by
  obtain ⟨h1, h2⟩ := nI_mt a b h
  have hL : nO a = nI (cz (mt a b).2) := by rw [nI_cz]; omega
  have hR : nO b = nI (cz (mt a b).1) := by rw [nI_cz]; omega
  refine cz_of_ap (by rw [nI_cmp _ _ hL, nI_cmp _ _ hR, h]) fun s hs => ?_
  rw [nI_cmp _ _ hL] at hs
  rw [ap_cmp _ _ _ hL s (by omega), ap_cmp _ _ _ hR s (by omega), ap_cz, ap_cz, ap_mt _ a b h s (by omega)]
  · rw [ap_length _ _ _ (by omega)]; omega
  · rw [ap_length _ _ _ (by omega)]; omega
/-- how many bytes are put -/
def nP : List U → Nat
  | [] => 0
  | some (some _) :: r => nP r + 1
  | _ :: r => nP r
theorem nP_mt (a b : List U) (h : nI a = nI b) : nP (mt a b).1 = nP a ∧ nP (mt a b).2 = nP b := by
  refine mt_ind (M := fun a b => nP (mt a b).1 = nP a ∧ nP (mt a b).2 = nP b) ⟨rfl, rfl⟩ ?_ ?_ ?_ ?_ ?_ ?_ _ a b (Nat.le_refl _) h
  · intro b xs ys h ih; simpa [mt, nP] using ih
  · intro xs b ys hx h ih; rw [mt_put _ _ _ hx]; simpa [nP] using ih
  all_goals intro xs ys h ih; simpa [mt, nP, lead, rst] using ih
theorem nP_append (a b : List U) : nP (a ++ b) = nP a + nP b := by
  induction a with
  | nil => simp [nP]
  | cons u a ih => rcases u with _ | _ | x <;> simp [nP, ih] <;> omega
theorem nP_insC (us : List U) : nP (insC us) = nP us := by
  induction us with
  | nil => rfl
  | cons u us ih => rcases u with _ | _ | x <;> simp [insC, nP, ih]
theorem nP_cz (us : List U) : nP (cz us) = nP us := by
  induction us with
  | nil => rfl
  | cons u us ih => rcases u with _ | _ | x <;> simp [cz, nP, ih, nP_insC]
def szP : List Pt → Int
  | [] => 0
  | p :: l => (p.2.2.size : Int) + szP l
theorem nP_up (p : Pt) (h : Shape p) : (nP (up p) : Int) = p.2.2.size := by
  obtain ⟨k, n, t⟩ := p
  have hr (u : U) (hu : nP [u] = 0) (n : Nat) : nP (List.replicate n u) = 0 := by
    induction n with
    | zero => rfl
    | succ n ih => rw [List.replicate_succ, show u :: List.replicate n u = [u] ++ List.replicate n u from rfl, nP_append, ih, hu]
  have hp : ∀ l : List UInt8, nP (l.map (fun b => (some (some b) : U))) = l.length := by
    intro l
    induction l with
    | nil => rfl
    | cons x l ih => simp [nP, ih]
  rcases h with ⟨h1 | h1, _, h3⟩ | ⟨h1, _, _⟩
  · simp only at h1 h3; subst h1; subst h3
    simp only [up, if_true]
    rw [hr _ rfl]; rfl
  · simp only at h1 h3; subst h1; subst h3
    rw [show up ((3, n, emp) : Pt) = List.replicate n.toNat (some none) from rfl, hr _ rfl]; rfl
  · simp only at h1; subst h1
    rw [show up ((2, n, t) : Pt) = t.data.toList.map (fun b => some (some b)) from rfl, hp]; rfl
theorem nP_units : ∀ (l : List Pt), Fine l → (nP (units l) : Int) = szP l
  | [], _ => rfl
  | p :: l, h => by
    have h1 := nP_up p (h p (by simp))
    have h2 := nP_units l fun q hq => h q (by simp [hq])
    rw [units_cons, nP_append]
    simp only [szP]
    omega
end Go.Proofs.Ytmnnaemcjmiplaa
namespace Go.Proofs.Ytmnnaemcjmiplaa
set_option linter.unusedVariables false
set_option linter.unusedSimpArgs false

def fitsE (d : List Pt) (n : Int) : Int := if chk d ≠ 0 then chk d else if n ≠ (nI (units d) : Int) then 4 else 0
def doE (d : List Pt) (s : ByteArray) : Int := fitsE d s.size
def doS (d : List Pt) (s : ByteArray) : ByteArray := if doE d s = 0 then ⟨(ap id (units d) s.data.toList).toArray⟩ else ⟨#[]⟩
theorem do_chk {d : List Pt} {s : ByteArray} (h : doE d s = 0) : chk d = 0 ∧ nI (units d) = s.size ∧ doS d s = ⟨(ap id (units d) s.data.toList).toArray⟩ ∧ s.size ≤ 500 := by
  have e : doS d s = ⟨(ap id (units d) s.data.toList).toArray⟩ := by unfold doS; rw [if_pos h]
  unfold doE fitsE at h
  split at h
  · omega
  · split at h
    · omega
    · rename_i h1 h2
      have hk : chk d = 0 := by omega
      have := (chk_parts hk).2.2.2.1
      exact ⟨hk, by omega, e, by omega⟩
theorem do_zero {d : List Pt} {s : ByteArray} (hk : chk d = 0) (hn : nI (units d) = s.size) : doE d s = 0 := by
  unfold doE fitsE; rw [if_neg (by omega), if_neg (by omega)]
theorem do_err {d : List Pt} {s : ByteArray} (h : doE d s ≠ 0) : doS d s = ⟨#[]⟩ := by unfold doS; rw [if_neg h]
theorem do_list {d : List Pt} {s : ByteArray} (h : doE d s = 0) : (doS d s).data.toList = ap id (units d) s.data.toList := by rw [(do_chk h).2.2.1]
theorem do_size {d : List Pt} {s : ByteArray} (h : doE d s = 0) : (doS d s).size = nO (units d) := by
  have h1 := do_chk h
  have h2 : (doS d s).size = (doS d s).data.toList.length := rfl
  rw [h2, do_list h, ap_length id _ _ (by rw [h1.2.1]; rfl)]
theorem do_le {d : List Pt} {s : ByteArray} (h : doE d s = 0) : (doS d s).size ≤ 500 := by
  rw [do_size h]; exact (chk_parts (do_chk h).1).2.2.2.2.1
theorem do_size_any (d : List Pt) (s : ByteArray) : (doS d s).size ≤ 500 := by
  by_cases h : doE d s = 0
  · exact do_le h
  · rw [do_err h]; decide
theorem ba_list {s t : ByteArray} (h : s.data.toList = t.data.toList) : s = t := by
  cases s; cases t; simp at h; simp [h]
/-- what is still to do -/
theorem do_step_keep {N : Nat} {t : ByteArray} {l : List Pt} {acc r : List UInt8} {R : List UInt8} (h : acc ++ ap id (units ((1, (N : Int), t) :: l)) r = R) (hn : nI (units ((1, (N : Int), t) :: l)) = r.length) :
    (acc ++ r.take N) ++ ap id (units l) (r.drop N) = R ∧ nI (units l) = (r.drop N).length ∧ N ≤ r.length := by
  have e : up ((1, (N : Int), t) : Pt) = List.replicate N none := by simp [up]
  rw [units_cons, e] at h hn
  rw [nI_append, nI_keeps] at hn
  have h2 : r = r.take N ++ r.drop N := (List.take_append_drop N r).symm
  have h3 : (r.take N).length = N := by rw [List.length_take]; omega
  have h4 := ap_append id (List.replicate N none) (units l) (r.take N) (r.drop N) (by rw [nI_keeps, h3])
  rw [List.take_append_drop] at h4
  rw [h4] at h
  have h5 := ap_keeps (α := UInt8) id (r.take N)
  rw [h3] at h5
  rw [h5] at h
  refine ⟨by rw [List.append_assoc]; exact h, by rw [List.length_drop]; omega, by omega⟩
theorem ap_cuts {α : Type} (f : UInt8 → α) : ∀ (s : List α), ap f (List.replicate s.length (some none)) s = []
  | [] => rfl
  | x :: s => by rw [List.length_cons, List.replicate_succ]; simp only [ap]; rw [ap_cuts f s]
theorem do_step_cut {N : Nat} {t : ByteArray} {l : List Pt} {acc r : List UInt8} {R : List UInt8} (h : acc ++ ap id (units ((3, (N : Int), t) :: l)) r = R) (hn : nI (units ((3, (N : Int), t) :: l)) = r.length) :
    acc ++ ap id (units l) (r.drop N) = R ∧ nI (units l) = (r.drop N).length ∧ N ≤ r.length := by
  have e : up ((3, (N : Int), t) : Pt) = List.replicate N (some none) := by simp [up]
  rw [units_cons, e] at h hn
  rw [nI_append, nI_cuts] at hn
  have h3 : (r.take N).length = N := by rw [List.length_take]; omega
  have h4 := ap_append id (List.replicate N (some none)) (units l) (r.take N) (r.drop N) (by rw [nI_cuts, h3])
  rw [List.take_append_drop] at h4
  rw [h4] at h
  have h5 := ap_cuts (α := UInt8) id (r.take N)
  rw [h3] at h5
  rw [h5] at h
  exact ⟨by simpa using h, by rw [List.length_drop]; omega, by omega⟩
theorem ap_puts {α : Type} (f : UInt8 → α) (t : List UInt8) (us : List U) (r : List α) : ap f (t.map (fun b => some (some b)) ++ us) r = t.map f ++ ap f us r := by
  induction t with
  | nil => rfl
  | cons x t ih => simp only [List.map_cons, List.cons_append, ap]; rw [ih]
theorem do_step_put {N : Int} {t : ByteArray} {l : List Pt} {acc r : List UInt8} {R : List UInt8} (h : acc ++ ap id (units ((2, N, t) :: l)) r = R) (hn : nI (units ((2, N, t) :: l)) = r.length) :
    (acc ++ t.data.toList) ++ ap id (units l) r = R ∧ nI (units l) = r.length := by
  have e : up ((2, N, t) : Pt) = t.data.toList.map (fun b => some (some b)) := by simp [up]
  have h0 : nI (t.data.toList.map (fun b => (some (some b) : U))) = 0 := nI_pu t
  rw [units_cons, e] at h hn
  rw [nI_append, h0] at hn
  rw [ap_puts] at h
  exact ⟨by rw [List.append_assoc]; simpa using h, by omega⟩
end Go.Proofs.Ytmnnaemcjmiplaa
namespace Go.Proofs.Ytmnnaemcjmiplaa
open Go.ChangeShapes Go.WideShapes Go.RowKit
set_option linter.unusedVariables false
set_option linter.unusedSimpArgs false
set_option maxRecDepth 100000
set_option maxHeartbeats 4000000

theorem fits_any (l : List Pt) (A : Option Addr) (n c B : Nat) (m : Nat) (w : World) (h : RdP w B A n c l) (hB : B ≤ w.heap.size) :
    Calls Try.prog 83 #[.slice A n c, .int .i64 m] w fun e w' => e = .returned (.int .i64 (fitsE l m)) ∧ Below w.heap.size w w' := by
  have H := Lib.hid h
  clear h
  by_cases hk : chk l = 0
  · have Hk := Lib.hid hk
    by_cases hm : m = nI (units l)
    · have e : fitsE l m = 0 := by unfold fitsE; rw [if_neg (by omega), if_neg (by omega)]
      rw [e]
      have hc := psizes_good l A n c B w H.out hB hk
      rw [← hm] at hc
      have Hc := Lib.hid hc
      clear hc hk e hm
      go_enter Try.func83, Try.ntmps83
      go_wp2_with fail
      refine Hc.out.mono ?_
      rintro e w1 ⟨rfl, hb⟩
      go_wp2_with fail
      go_ret
      exact ⟨rfl, hb⟩
    · have e : fitsE l m = 4 := by unfold fitsE; rw [if_neg (by omega), if_pos (by omega)]
      rw [e]
      have hne : ((m : Int) != (nI (units l) : Int)) = true := by simp; omega
      clear hk e hm
      go_enter Try.func83, Try.ntmps83
      go_wp2_with fail
      refine (psizes_good l A n c B _ H.out hB Hk.out).mono ?_
      rintro e w1 ⟨rfl, hb⟩
      go_wp2_with fail
      go_ret
      exact ⟨rfl, hb⟩
  · have e : fitsE l m = chk l := by unfold fitsE; rw [if_pos hk]
    rw [e]
    have hne : ((chk l) != 0) = true := by simpa using hk
    have Hk := Lib.hid hk
    clear hk e
    go_enter Try.func83, Try.ntmps83
    go_wp2_with fail
    refine (psizes_err l A n c B _ H.out hB Hk.out).mono ?_
    rintro e w1 ⟨rfl, hb⟩
    go_wp2_with fail
    go_ret
    exact ⟨rfl, hb⟩
theorem do_any (l : List Pt) (A : Option Addr) (n c B : Nat) (s : ByteArray) (w : World) (h : RdP w B A n c l) (hB : B ≤ w.heap.size) (hs : s.size ≤ 9223372036854775807) :
    Calls Try.prog 47 #[.slice A n c, .string s] w fun e w' => e = .returned (.tuple #[.string (doS l s), .int .i64 (doE l s)]) ∧ Below w.heap.size w w' := by
  have H := Lib.hid h
  have hcall : ∀ w' , RdP w' B A n c l → B ≤ w'.heap.size → Calls Try.prog 83 #[.slice A n c, .int .i64 s.size] w' fun e w'' => e = .returned (.int .i64 (doE l s)) ∧ Below w'.heap.size w' w'' := fun w' h1 h2 => fits_any l A n c B s.size w' h1 h2
  have Hcall := Lib.hid hcall
  clear h hcall
  by_cases he : doE l s = 0
  · obtain ⟨hk, hn, hd, h5⟩ := do_chk he
    rw [he, hd]
    rw [he] at Hcall
    have HF := Lib.hid (chk_parts hk)
    have hn16 : (n : Int) ≤ 1600 := by have := HF.out.1; have := H.out.1; omega
    have hfin : (ap id (units l) s.data.toList).length ≤ 500 := by rw [ap_length id _ _ hn]; exact (chk_parts hk).2.2.2.2.1
    obtain ⟨R, hR⟩ : ∃ R, ap id (units l) s.data.toList = R := ⟨_, rfl⟩
    rw [hR] at hfin ⊢
    have Hfin := Lib.hid hfin
    have hst : ([] : List UInt8) ++ ap id (units l) s.data.toList = R ∧ nI (units l) = s.data.toList.length := ⟨hR, hn⟩
    clear hfin hR
    have Hst := Lib.hid hst
    clear hk hn hd hst he
    go_enter Try.func47, Try.ntmps47
    go_wp2_with fail
    refine (Hcall.out _ H.out hB).mono ?_
    rintro e w1 ⟨rfl, hb1⟩
    have hbb := hb1.alloc hb1.size (.cells #[.pointer none, .slice none 0 0] 147)
    have HBd := Lib.hid (Bd.fresh_ w1 (B := w.heap.size) hb1.size)
    have hsz := hb1.size
    clear hb1
    go_wp2_with fail
    obtain ⟨gb, hgb⟩ : ∃ g, g = w1.heap.size := ⟨_, rfl⟩
    rw [← hgb] at HBd ⊢
    clear hgb
    go_loopw [1, 9, 19] (fun sv pv i wr => ∃ (k : Nat) (acc : List UInt8) (r : ByteArray), k ≤ n ∧ i = .int .i64 k ∧ sv = .string r ∧ r.size ≤ 500 ∧ Hid (Bd wr w.heap.size gb acc) ∧ Hid (acc ++ ap id (units (l.drop k)) r.data.toList = R ∧ nI (units (l.drop k)) = r.data.toList.length) ∧ Below w.heap.size w wr) (fun _ _ i _ => n - (intOf i).toNat)
    case atStart => exact ⟨0, [], s, by omega, rfl, rfl, h5, HBd, Lib.hid (by rw [List.drop_zero]; exact Hst.out), hbb⟩
    case round =>
      obtain ⟨k, acc, r, hk, rfl, rfl, hr5, hbd, hst, hbw⟩ := hrel
      have Hgne : Hid (wr.heap.size ≠ gb) := Lib.hid (by rcases hbd.out with ⟨_, v, hh, _⟩ | ⟨_, v, hh, _⟩ <;> exact Nat.ne_of_gt (Blk.lt (t := 147) hh))
      have hacc : acc.length ≤ 500 := by
        have h1 := Hfin.out
        rw [← hst.out.1, List.length_append] at h1
        omega
      by_cases hlt : k < n
      · have hkl : k < l.length := by have := H.out.1; omega
        obtain ⟨g, o, rfl, hg, c0, c1, c2⟩ := (H.out.below (hbw.mono hB)).at_ k hlt
        have hbd2 := fit_bounds _ (HF.out.2.2.2.2.2 l[k] (List.getElem_mem hkl))
        have hdr : l.drop k = l[k] :: l.drop (k + 1) := List.drop_eq_getElem_cons hkl
        rw [hdr] at hst
        obtain ⟨p, hp⟩ : ∃ p, p = l[k] := ⟨_, rfl⟩
        rw [← hp] at hbd2 hst c0 c1 c2
        clear hp hdr
        obtain ⟨kd, m, t⟩ := p
        simp only at hbd2 c0 c1 c2
        have hk0 : (0 : Int) ≤ (k : Int) := by omega
        have hkn : (k : Int) < (n : Int) := by omega
        have hgl : g < wr.heap.size := by have := hbw.size; omega
        have hw1 := hbw.alloc hbw.size (.cells #[.int .i64 kd, .int .i64 m, .string t] 81)
        have hbd3 := Lib.hid (hbd.out.alloc (.cells #[.int .i64 kd, .int .i64 m, .string t] 81))
        have hpb := Blk.new wr 81 #[.int .i64 kd, .int .i64 m, .string t]
        have Hpb := Lib.hid hpb
        clear hpb
        rcases hbd2 with ⟨rfl | rfl, h1, h2, rfl⟩ | ⟨rfl, rfl, h1, h2⟩
        · obtain ⟨z, rfl⟩ := Int.eq_ofNat_of_zero_le (show 0 ≤ m by omega)
          obtain ⟨q1, q2, q3⟩ := do_step_keep hst.out.1 hst.out.2
          have hzr : (z : Int) ≤ (r.size : Int) := by have : r.data.toList.length = r.size := rfl; omega
          have hz0 : (0 : Int) ≤ (z : Int) := by omega
          have hzt : ((z : Int)).toNat = z := by omega
          have e1 : (r.extract 0 z).data.toList = r.data.toList.take z := by rw [bs_extract]; simp
          have e2 : (r.extract z r.size).data.toList = r.data.toList.drop z := by rw [bs_extract, ← bs_len, List.take_length]
          have hs2 : (r.extract z r.size).size ≤ 500 := by rw [← bs_len, e2, List.length_drop, bs_len]; omega
          have hs1 : (r.extract 0 z).size ≤ 500 := by rw [← bs_len, e1, List.length_take, bs_len]; omega
          have Hq : Hid ((acc ++ (r.extract 0 z).data.toList) ++ ap id (units (l.drop (k + 1))) (r.extract z r.size).data.toList = R ∧ nI (units (l.drop (k + 1))) = (r.extract z r.size).data.toList.length) := Lib.hid ⟨by rw [e1, e2]; exact q1, by rw [e2]; exact q2⟩
          clear q1 q2 q3 e1 e2 hst
          go_wp2_with fail
          refine (bwrite_any _ gb acc _ _ hbd3.out (by omega) hw1.size).mono ?_
          rintro e w2 ⟨rfl, hbd4, hb2, hbk2⟩
          have hw2 := hw1.trans hb2
          have Hbd4 := Lib.hid hbd4
          have hp2 := hbk2 _ _ _ Hpb.out (by decide) Hgne.out
          have d1 := hp2.cell 1
          have l2 := hp2.lt
          clear hbd4 hb2 hbk2 hp2 hbd3 Hpb hbd
          go_wp2_with fail
          go_roundw
          case rel => exact ⟨k + 1, _, _, by omega, by go_num, rfl, hs2, Hbd4, Hq, hw2⟩
          case measure => simp [intOf]; omega
        · obtain ⟨z, rfl⟩ := Int.eq_ofNat_of_zero_le (show 0 ≤ m by omega)
          obtain ⟨q1, q2, q3⟩ := do_step_cut hst.out.1 hst.out.2
          have hzr : (z : Int) ≤ (r.size : Int) := by have : r.data.toList.length = r.size := rfl; omega
          have hz0 : (0 : Int) ≤ (z : Int) := by omega
          have hzt : ((z : Int)).toNat = z := by omega
          have e2 : (r.extract z r.size).data.toList = r.data.toList.drop z := by rw [bs_extract, ← bs_len, List.take_length]
          have hs2 : (r.extract z r.size).size ≤ 500 := by rw [← bs_len, e2, List.length_drop, bs_len]; omega
          have Hq : Hid (acc ++ ap id (units (l.drop (k + 1))) (r.extract z r.size).data.toList = R ∧ nI (units (l.drop (k + 1))) = (r.extract z r.size).data.toList.length) := Lib.hid ⟨by rw [e2]; exact q1, by rw [e2]; exact q2⟩
          clear q1 q2 q3 e2 hst Hpb hbd
          go_wp2_with fail
          go_roundw
          case rel => exact ⟨k + 1, _, _, by omega, by go_num, rfl, hs2, hbd3, Hq, hw1⟩
          case measure => simp [intOf]; omega
        · have hq := do_step_put hst.out.1 hst.out.2
          have Hq := Lib.hid hq
          clear hq hst Hpb hbd
          go_wp2_with fail
          refine (bwrite_any _ gb acc _ _ hbd3.out (by omega) hw1.size).mono ?_
          rintro e w2 ⟨rfl, hbd4, hb2, hbk2⟩
          have hw2 := hw1.trans hb2
          have Hbd4 := Lib.hid hbd4
          clear hbd4 hb2 hbk2 hbd3
          go_wp2_with fail
          go_roundw
          case rel => exact ⟨k + 1, _, _, by omega, by go_num, rfl, hr5, Hbd4, Hq, hw2⟩
          case measure => simp [intOf]; omega
      · have hR : acc = R := by
          have h1 := hst.out
          rw [List.drop_eq_nil_of_le (by have := H.out.1; omega)] at h1
          have h2 : r.data.toList = [] := List.eq_nil_of_length_eq_zero (by rw [← h1.2]; rfl)
          rw [h2] at h1
          simpa [units, ap] using h1.1
        subst hR
        go_wp2_with fail
        refine (bstring_any _ gb acc _ hbd.out hbw.size).mono ?_
        rintro e w2 ⟨rfl, hb2⟩
        have hw2 := hbw.trans hb2
        go_wp2_with fail
        go_ret2
        exact ⟨rfl, hw2⟩
  · rw [do_err he]
    have hne : ((doE l s) != 0) = true := by simpa using he
    generalize doE l s = E at *
    clear he
    go_enter Try.func47, Try.ntmps47
    go_wp2_with fail
    refine (Hcall.out _ H.out hB).mono ?_
    rintro e w1 ⟨rfl, hb1⟩
    go_wp2_with fail
    go_ret2
    exact ⟨rfl, hb1⟩
end Go.Proofs.Ytmnnaemcjmiplaa
namespace Go.Proofs.Ytmnnaemcjmiplaa
set_option linter.unusedVariables false
set_option linter.unusedSimpArgs false

/-- a revision: whose, its number, what it does -/
abbrev Rv := Int × Int × List Pt
def oneE (r : Rv) : Int := if r.1 < 0 ∨ 7 < r.1 ∨ r.2.1 < 0 ∨ 2147483647 < r.2.1 then 1 else chk r.2.2
def txr : ByteArray → List Rv → Int
  | _, [] => 0
  | s, r :: l => if oneE r ≠ 0 then oneE r else if doE r.2.2 s ≠ 0 then doE r.2.2 s else txr (doS r.2.2 s) l
def txE (base : ByteArray) (l : List Rv) : Int := if 500 < base.size ∨ 64 < l.length then 2 else txr base l
def txs : ByteArray → List Rv → List ByteArray
  | s, [] => [s]
  | s, r :: l => s :: txs (doS r.2.2 s) l
/-- the text behind k revisions -/
def txt : ByteArray → List Rv → Nat → ByteArray
  | s, _, 0 => s
  | s, [], _ + 1 => s
  | s, r :: l, k + 1 => txt (doS r.2.2 s) l k
theorem txs_len : ∀ (l : List Rv) (s : ByteArray), (txs s l).length = l.length + 1
  | [], s => rfl
  | r :: l, s => by simp only [txs, List.length_cons]; rw [txs_len l]
theorem txs_at : ∀ (l : List Rv) (s : ByteArray) (k : Nat), k ≤ l.length → (txs s l)[k]? = some (txt s l k)
  | [], s, 0, _ => rfl
  | r :: l, s, 0, _ => rfl
  | r :: l, s, k + 1, h => by
    simp only [txs, txt, List.getElem?_cons_succ]
    exact txs_at l _ k (by simpa using h)
theorem txr_take : ∀ (l : List Rv) (s : ByteArray) (k : Nat), txr s l = 0 → txr s (l.take k) = 0
  | [], s, k, h => by simp [txr]
  | r :: l, s, 0, h => by simp [txr]
  | r :: l, s, k + 1, h => by
    simp only [txr] at h
    split at h
    · omega
    · split at h
      · omega
      · rename_i h1 h2
        simp only [List.take_succ_cons, txr]
        rw [if_neg h1, if_neg h2]
        exact txr_take l _ k h
theorem txr_drop : ∀ (l : List Rv) (s : ByteArray) (k : Nat), txr s l = 0 → txr (txt s l k) (l.drop k) = 0
  | [], s, k, h => by simp [txr]
  | r :: l, s, 0, h => h
  | r :: l, s, k + 1, h => by
    simp only [txr] at h
    split at h
    · omega
    · split at h
      · omega
      · simp only [List.drop_succ_cons, txt]
        exact txr_drop l _ k h
theorem txt_size : ∀ (l : List Rv) (s : ByteArray) (k : Nat), s.size ≤ 500 → (txt s l k).size ≤ 500
  | [], s, 0, h => h
  | [], s, k + 1, h => h
  | r :: l, s, 0, h => h
  | r :: l, s, k + 1, h => txt_size l _ k (do_size_any _ _)
theorem txt_take : ∀ (l : List Rv) (s : ByteArray) (k i : Nat), i ≤ k → txt s (l.take k) i = txt s l i
  | [], s, k, i, _ => by simp
  | r :: l, s, k, 0, _ => by cases k <;> simp [txt]
  | r :: l, s, 0, i + 1, h => by omega
  | r :: l, s, k + 1, i + 1, h => by
    simp only [List.take_succ_cons, txt]
    exact txt_take l _ k i (by omega)
theorem txt_drop : ∀ (l : List Rv) (s : ByteArray) (k i : Nat), txt (txt s l k) (l.drop k) i = txt s l (k + i)
  | [], s, 0, i => by simp [txt]
  | [], s, k + 1, i => by
    simp only [txt, List.drop_nil]
    cases i <;> simp [txt]
  | r :: l, s, 0, i => by simp [txt]
  | r :: l, s, k + 1, i => by
    have := txt_drop l (doS r.2.2 s) k i
    simp only [List.drop_succ_cons, txt]
    rw [this, show k + 1 + i = (k + i) + 1 by omega]
    rfl
theorem txE_parts {base : ByteArray} {l : List Rv} (h : txE base l = 0) : base.size ≤ 500 ∧ l.length ≤ 64 ∧ txr base l = 0 := by
  unfold txE at h
  split at h
  · omega
  · rename_i h1
    exact ⟨by omega, by omega, h⟩
theorem txE_zero {base : ByteArray} {l : List Rv} (h1 : base.size ≤ 500) (h2 : l.length ≤ 64) (h : txr base l = 0) : txE base l = 0 := by
  unfold txE; rw [if_neg (by omega)]; exact h
/-- what has been told of a history, and what is still to do -/
theorem txr_step {s : ByteArray} {r : Rv} {l : List Rv} {E : Int} (h : txr s (r :: l) = E) :
    (oneE r ≠ 0 → E = oneE r) ∧ (oneE r = 0 → doE r.2.2 s ≠ 0 → E = doE r.2.2 s) ∧ (oneE r = 0 → doE r.2.2 s = 0 → txr (doS r.2.2 s) l = E) := by
  simp only [txr] at h
  refine ⟨fun h1 => ?_, fun h1 h2 => ?_, fun h1 h2 => ?_⟩
  · rw [if_pos h1] at h; exact h.symm
  · rw [if_neg (by omega), if_pos h2] at h; exact h.symm
  · rw [if_neg (by omega), if_neg (by omega)] at h; exact h
theorem one_good {r : Rv} (h : oneE r = 0) : chk r.2.2 = 0 := by
  unfold oneE at h
  split at h
  · omega
  · exact h
end Go.Proofs.Ytmnnaemcjmiplaa
