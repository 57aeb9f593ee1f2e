/- CompBeside, closed: whatever the arguments, the law answers true (arguments of bulk at most 1048576). The walk is walk_CompBeside. -/
import Derived.Test.YtgocddkoancdiaaBase
import Derived.Test.YtgocddkoancdiaaOpen
import Derived.Test.YtgocddkoancdiaaLCompBeside
namespace Go.Proofs.Ytgocddkoancdiaa
open Go.ChangeShapes Go.WideShapes Go.ChangeAt Go.RowKit
set_option linter.unusedVariables false
set_option linter.unusedSimpArgs false
set_option maxRecDepth 100000

theorem contract_CompBeside (H : Type) (enc : TypeId × Value → H) (W : World) (base : Nat) (args : Array Value) (ds gs : List (DataW H)) (before : List MemPlace)
    (hval : ∀ (j : Nat) t v, Try.f12.params[j]? = some t → args[j]? = some v → Value.okWide Try.prog W .any base t v)
    (hW : DataW.Whole enc Try.prog Try.f12.params.toList [] false W args.toList ds gs before)
    (hk : Rows.uptoSmall H (ds ++ gs) = true) :
    Calls Try.prog 12 args W fun e W' => ∃ v, e = .returned v ∧ Rows.compBesideSpec.post enc Try.prog Try.f12 false true false false W args v W' := by
  have hW' := hW
  have hlt0 := hW.lt
  obtain ⟨p, q, hA0, hV, rfl, hfz, hnd⟩ := hW
  have hA : DataW.TrodAll enc Try.prog W 0 (fun _ => true) true Try.f12.params.toList args.toList ds p := hA0
  obtain ⟨rfl, rfl⟩ := trodVars_none hV
  rw [Try.params12] at hA hval
  have hbd := bulk_bound hk
  obtain ⟨v0, vs0, d0, ds0, p0, q0, hargs, rfl, rfl, h0, r0⟩ := trodAll_cons hA
  obtain ⟨v1, vs1, d1, ds1, p1, q1, rfl, rfl, rfl, h1, r1⟩ := trodAll_cons r0
  obtain ⟨v2, vs2, d2, ds2, p2, q2, rfl, rfl, rfl, h2, r2⟩ := trodAll_cons r1
  obtain ⟨v3, vs3, d3, ds3, p3, q3, rfl, rfl, rfl, h3, r3⟩ := trodAll_cons r2
  obtain ⟨rfl, rfl, rfl⟩ := trodAll_nil r3
  obtain rfl : args = #[v0, v1, v2, v3] := by cases args; simp_all
  obtain ⟨x0, hx0⟩ := open_parts_upto (hval 0 22 v0 rfl rfl) h0 (fun x hx => hlt0 x (by simp [hx])) (bulk_part hbd (by simp))
  obtain ⟨x1, hx1⟩ := open_parts_upto (hval 1 22 v1 rfl rfl) h1 (fun x hx => hlt0 x (by simp [hx])) (bulk_part hbd (by simp))
  obtain ⟨x2, hx2⟩ := open_parts_upto (hval 2 22 v2 rfl rfl) h2 (fun x hx => hlt0 x (by simp [hx])) (bulk_part hbd (by simp))
  obtain ⟨x3, hx3⟩ := open_parts_upto (hval 3 22 v3 rfl rfl) h3 (fun x hx => hlt0 x (by simp [hx])) (bulk_part hbd (by simp))
  exact (walk_CompBeside _ x0 _ x1 _ x2 _ x3 W hx0 hx1 hx2 hx3).mono fun e W' ⟨he, hb⟩ => ⟨_, he, post_of_below Try.laidOut Try.underlying4 rfl rfl (of_decide_eq_true (by kernel_rfl)) hW' rfl rfl rfl hb⟩

set_option maxRecDepth 100000 in
theorem lifted_CompBeside (os : Os) (started : os.Started) (H : Type) (enc : TypeId × Value → H) (F : Stop.Interp) :
    ReturnsInHanded {} Try.checked os 12 .any ((Rows.OpenSpec.upto Rows.compBesideSpec).pre6 enc Try.prog Try.f12 Rows.compBesideUptoRow.domain false) (((Rows.OpenSpec.upto Rows.compBesideSpec).at F).post enc Try.prog Try.f12 false true false false) := by
  refine returnsInHanded_of_cond (C := Try.checked) (s := Rows.OpenSpec.upto Rows.compBesideSpec) (k := Rows.uptoSmall) rfl Try.own started (by kernel_rfl) Try.func12
    (OpenSpec.witness (enc := enc) (C := Try.checked) (s := Rows.OpenSpec.upto Rows.compBesideSpec) (k := Rows.uptoSmall) rfl false ⟨#[], #[.slice none 0 0, .slice none 0 0, .slice none 0 0, .slice none 0 0], []⟩ 8 (by kernel_rfl) (by kernel_rfl) (by kernel_rfl)
      (x := ([.nil, .nil, .nil, .nil], [], [])) (by kernel_rfl) rfl (by kernel_rfl)) ?_
  intro W base args ds gs before hval hW _ hk _
  exact contract_CompBeside H enc W base args ds gs before hval hW hk

theorem compBeside_over : Rows.compBesideUptoRow.holds Try.pinned (Rows.OpenSpec.upto Rows.compBesideSpec) :=
  OpenClaim.holds_of_cond 12 Try.f12 rfl rfl rfl rfl rfl rfl rfl ⟨rfl, rfl, rfl, rfl, rfl⟩ rfl rfl rfl rfl rfl (by kernel_rfl) Try.func12 (by kernel_rfl)
    (of_decide_eq_true (by kernel_rfl)) (by unfold Func.isWrapper; first | (rw [if_pos (by decide +kernel)]; kernel_rfl) | (rw [if_neg (by decide +kernel)]; exact ⟨rfl, rfl⟩))
    (fun os started H enc _ F => lifted_CompBeside os started H enc F)

theorem compBeside_holds : Rows.CompBesideUptoSaid := compBeside_over

end Go.Proofs.Ytgocddkoancdiaa
