/- A strings.Builder that a call makes itself: written and read. -/
import Derived.Test.YtfncpcmaplhojaaMaker
import Derived.Test.YtfncpcmaplhojaaShelf
import Derived.Lib.Builder
namespace Go.Proofs.Ytfncpcmaplhojaa
open Go.ChangeShapes Go.WideShapes Go.RowKit
set_option linter.unusedVariables false
set_option linter.unusedSimpArgs false
set_option maxRecDepth 100000
set_option maxHeartbeats 4000000

theorem Try.builderSize : (Try.prog.info? 114).map (·.size) = some 2 := by kernel_rfl
theorem Try.builderLies : liesAt Try.prog Try.prog.depth 114 (2 / Try.prog.cellsOf 114) 0 114 1 = true := by kernel_rfl
theorem blk_shape {w : World} {b : Nat} {t : TypeId} {x y : Value} (h : Blk w b t #[x, y]) : w.shape? b = some (t, 2) := by
  unfold Blk at h
  simp [World.shape?, h]
theorem bcheck_fresh (b : Nat) (v : Value) (w : World) (h : Blk w b 114 #[.pointer none, v]) :
    Calls Try.prog 96 #[.pointer (some ⟨b, 0, none⟩)] w fun e w' => e = .returned (.tuple #[]) ∧ w' = w.setCell ⟨b, 0, none⟩ (.pointer (some ⟨b, 0, none⟩)) := by
  obtain ⟨j, hj, hjs⟩ := Option.map_eq_some_iff.1 Try.builderSize
  have hsh := blk_shape h
  have c0 := h.cell 0
  have f0 := h.frozen 0
  have l0 := h.lt
  clear h
  go_enter Try.func96, Try.ntmps96
  go_wp2_with fail
  rw [Lib.run_to_unsafe w ⟨b, 0, none⟩ Try.underlying111 Try.underlying192 hj (by rw [hjs]; decide) hsh (Nat.zero_lt_succ 1)]
  simp only [Result.andThen]
  rw [Oper.upon_value]
  go_wp2_with fail
  rw [run_callFunc_extern Try.func111 (by kernel_rfl) (by kernel_rfl) (by kernel_rfl) (e := Extern.AbiNoEscape.same) (by kernel_rfl)]
  rw [Lib.run_noEscape]
  simp only [Result.andThen]
  rw [Oper.upon_value]
  go_wp2_with fail
  rw [Lib.run_from_unsafe w ⟨b, 0, none⟩ Try.underlying192 Try.underlying111 hj hsh Try.builderLies]
  simp only [Result.andThen]
  rw [Oper.upon_value]
  go_wp2_with fail
  go_end0
  exact ⟨rfl, rfl⟩
theorem bcheck_used (b : Nat) (v : Value) (w : World) (h : Blk w b 114 #[.pointer (some ⟨b, 0, none⟩), v]) :
    Calls Try.prog 96 #[.pointer (some ⟨b, 0, none⟩)] w fun e w' => e = .returned (.tuple #[]) ∧ w' = w := by
  obtain ⟨j, hj, hjs⟩ := Option.map_eq_some_iff.1 Try.builderSize
  have c0 := h.cell 0
  clear h
  go_enter Try.func96, Try.ntmps96
  go_wp2_with fail
  rw [Lib.run_neq_ptr_same w _ Try.underlying111 hj]
  go_wp2_with fail
  go_end0
  exact ⟨rfl, rfl⟩
/-- the builder at block b holds the bytes l -/
def Bd (w : World) (B b : Nat) (l : List UInt8) : Prop := Lib.IsBuilder 114 5 B b (Lib.byteCells l) w
theorem Bd.fresh (w : World) : Bd (w.alloc (.cells #[.pointer none, .slice none 0 0] 114)) w.heap.size w.heap.size [] :=
  .inl ⟨Nat.le_refl _, _, heap_alloc_new w _, World.ownsRow_nil _ _ _ _, by simp [Value.ownBlock]⟩
theorem Bd.fresh_ (w : World) {B : Nat} (hB : B ≤ w.heap.size) : Bd (w.alloc (.cells #[.pointer none, .slice none 0 0] 114)) B w.heap.size [] :=
  .inl ⟨hB, _, heap_alloc_new w _, World.ownsRow_nil _ _ _ _, by simp [Value.ownBlock]⟩
/-- other blocks, but rows of bytes, stand -/
def BK (b : Nat) (w w' : World) : Prop := ∀ g t cs, Blk w g t cs → t ≠ 5 → g ≠ b → Blk w' g t cs
theorem BK.trans {b : Nat} {w w' w'' : World} (h : BK b w w') (h' : BK b w' w'') : BK b w w'' := fun g t cs h1 h2 h3 => h' g t cs (h g t cs h1 h2 h3) h2 h3
theorem bcheck_any (B b : Nat) (bs : List Value) (w : World) (h : Lib.IsBuilder 114 5 B b bs w) :
    Calls Try.prog 96 #[.pointer (some ⟨b, 0, none⟩)] w fun e w' => e = .returned (.tuple #[]) ∧ Lib.BuilderAt 114 5 B b (.pointer (some ⟨b, 0, none⟩)) bs w' ∧ Below B w w' ∧ BK b w w' := by
  rcases h with h | h
  · obtain ⟨hB, v, hbk, ho, hne⟩ := h
    refine (bcheck_fresh b v w hbk).mono ?_
    rintro e w' ⟨rfl, rfl⟩
    exact ⟨rfl, Lib.BuilderAt.used ⟨hB, v, hbk, ho, hne⟩ _, (Below.refl B w).setCell (p := ⟨b, 0, none⟩) hB _, fun g t cs h1 h2 h3 => h1.far h3 _⟩
  · obtain ⟨hB, v, hbk, ho, hne⟩ := h
    refine (bcheck_used b v w hbk).mono ?_
    rintro e w' ⟨rfl, rfl⟩
    exact ⟨rfl, ⟨hB, v, hbk, ho, hne⟩, Below.refl B _, fun g t cs h1 h2 h3 => h1⟩
theorem Try.info_u8b : (Try.prog.info? 5).map (fun i => (i.zero, i.size, i.bytes)) = some (some (.int .u8 0), 1, 1) := by kernel_rfl
theorem bwrite_any (B b : Nat) (l : List UInt8) (s : ByteArray) (w : World) (h : Bd w B b l) (hlen : l.length + s.size ≤ 140737488355328) (hBw : B ≤ w.heap.size) :
    Calls Try.prog 61 #[.pointer (some ⟨b, 0, none⟩), .string s] w fun e w' => e = .returned (.tuple #[.int .i64 s.size, .nilIface]) ∧ Bd w' B b (l ++ s.data.toList) ∧ Below B w w' ∧ BK b w w' := by
  obtain ⟨i0, hi, hz0, hz1, hz2⟩ := info_parts Try.info_u8b
  have Hh := Lib.hid h
  have hs : s.size ≤ 9223372036854775807 := by omega
  clear h
  have hll : (Lib.byteCells l).length = l.length := by simp [Lib.byteCells]
  go_enter Try.func61, Try.ntmps61
  go_wp2_with fail
  refine (bcheck_any B b _ _ Hh.out).mono ?_
  rintro e w1 ⟨rfl, ⟨hB, v, hbk, hown, hne⟩, hb1, hbk1⟩
  have Hbk1 := Lib.hid hbk1
  clear hbk1
  have kb : Blk w1 b 114 #[.pointer (some ⟨b, 0, none⟩), v] := hbk
  have c0 := kb.cell 0
  have c1 := kb.cell 1
  have l1 := kb.lt
  have hBw1 : B ≤ w1.heap.size := by have := hb1.size; omega
  have Kb := Lib.hid kb
  have Hown := Lib.hid hown
  clear kb hbk hown
  go_wp2_with (at_builtin; refine Lib.wpList_append_own_string _ rfl _ _ 112 9 rfl B 5 i0 Try.underlying112 Try.underlying9 hi hz0 hz1 hz2 _ _ _ rfl Hown.out s rfl ?c3 ?c4 ?c5 ?_)
  case c3 => unfold maxLen; omega
  case c4 => omega
  case c5 => exact hBw1
  intro v' w2 hown' hgrow _
  have kb2 := Kb.out.grown hgrow (Ne.symm hne)
  have hge := own_ge Hown.out
  have hne2 : v'.ownBlock ≠ some b := own_blk_ne (t := 114) hown' kb2 (by decide)
  have hb2 : Below B w1 w2 := below_grown hgrow hBw1 hge
  have d0 := kb2.cell 0
  have d1 := kb2.cell 1
  have f1 := kb2.frozen 1
  have l2 := kb2.lt
  obtain ⟨ao, n', cap, rfl⟩ : ∃ ao n' cap, v' = .slice ao n' cap := by
    rcases hown'.2 with ⟨rfl, _⟩ | ⟨g, cap, cur, rfl, _⟩
    · exact ⟨_, _, _, rfl⟩
    · exact ⟨_, _, _, rfl⟩
  have Kb2 := Lib.hid kb2
  have Hown2 := Lib.hid hown'
  have hbelow := hb1.trans hb2
  have Hbk2 : Hid (BK b w1 w2) := Lib.hid fun g t cs h1 h2 h3 => h1.grown hgrow (own_blk_ne (t := t) Hown.out h1 (Ne.symm h2)).symm
  clear kb2 hown' hgrow hb1 hb2 c0 c1
  go_wp2_with fail
  go_ret2
  refine ⟨rfl, ?_, hbelow.trans ((Below.refl B w2).setCell (p := ⟨b, 1, none⟩) hB _), (Hbk1.out.trans Hbk2.out).trans fun g t cs h1 h2 h3 => h1.far h3 _⟩
  refine .inr ⟨hB, _, Kb2.out.set_ 1 _, ?_, hne2⟩
  have h1 := own_only (w' := w2.setCell ⟨b, 1, none⟩ (.slice ao n' cap)) (S := fun k => k = b) Hown2.out ⟨rfl, rfl, rfl, by simp [World.setCell], fun k _ hs => Below.heap_setCell w2 _ _ k fun e => hs e⟩ fun k hk e => hne2 (by rw [hk, e])
  have e1 : Lib.byteCells l ++ Lib.strCells s = Lib.byteCells (l ++ s.data.toList) := by simp [Lib.byteCells, Lib.strCells]
  rw [e1] at h1
  have e2 : (Lib.byteCells (l ++ s.data.toList)).length = l.length + s.size := by simp [Lib.byteCells]
  rw [e2]
  exact h1
theorem bstring_any (B b : Nat) (l : List UInt8) (w : World) (h : Bd w B b l) (hBw : B ≤ w.heap.size) :
    Calls Try.prog 62 #[.pointer (some ⟨b, 0, none⟩)] w fun e w' => e = .returned (.string ⟨l.toArray⟩) ∧ Below B w w' := Go.Proofs.Try.Builder_String_any B b l w h hBw
theorem Bd.alloc {w : World} {B b : Nat} {l : List UInt8} (h : Bd w B b l) (o : Obj) : Bd (w.alloc o) B b l := by
  rcases h with ⟨hB, v, hbk, ho, hne⟩ | ⟨hB, v, hbk, ho, hne⟩
  · exact .inl ⟨hB, v, Blk.alloc (t := 114) hbk o, ho.alloc o, hne⟩
  · exact .inr ⟨hB, v, Blk.alloc (t := 114) hbk o, ho.alloc o, hne⟩
end Go.Proofs.Ytfncpcmaplhojaa
