/- WorldOwn, closed: whatever the arguments, the law answers true. The walk is walk_WorldOwn. -/
import Derived.Test.YtokngfinnieccaaO1
import Derived.Test.YtokngfinnieccaaO10
import Derived.Test.YtokngfinnieccaaMWorldOwn2
namespace Go.Proofs.Ytokngfinnieccaa
open Go.ChangeShapes Go.WideShapes Go.ChangeAt Go.RowKit
set_option linter.unusedVariables false
set_option linter.unusedSimpArgs false
set_option maxRecDepth 100000
theorem contract_WorldOwn (H : Type) (enc : TypeId × Value → H) (W : World) (base : Nat) (args : Array Value) (ds gs : List (DataW H)) (before : List MemPlace)
 (hval : ∀ (j : Nat) t v, Try.f13.params[j]? = some t → args[j]? = some v → Value.okWide Try.prog W .any base t v)
 (hW : DataW.Whole enc Try.prog Try.f13.params.toList [] false W args.toList ds gs before)
 (hsz0 : (DataW.weightsEach Try.prog (Try.f13.params.toList ++ []) (ds ++ gs)).all (· ≤ reachBytes) = true) :
 Calls Try.prog 13 args W fun e W' => ∃ v, e = .returned v ∧ Rows.worldOwnSpec.post enc Try.prog Try.f13 false true false false W args v W' := by
 have hW' := hW
 have hlt0 := hW.lt
 obtain ⟨p, q, hA0, hV, rfl, hfz, hnd⟩ := hW
 have hA : DataW.TrodAll enc Try.prog W 0 (fun _ => true) true Try.f13.params.toList args.toList ds p := hA0
 obtain ⟨rfl, rfl⟩ := trodVars_none hV
 have hsz := hsz0
 rw [Try.params13] at hA hval hsz
 obtain ⟨v0, vs0, d0, ds0, p0, q0, hargs, rfl, rfl, h0, r0⟩ := trodAll_cons hA
 obtain ⟨v1, vs1, d1, ds1, p1, q1, rfl, rfl, rfl, h1, r1⟩ := trodAll_cons r0
 obtain ⟨rfl, rfl, rfl⟩ := trodAll_nil r1
 obtain rfl : args = #[v0, v1] := by cases args; simp_all
 obtain ⟨x0, hx0⟩ := open_rows_said (hval 0 39 v0 rfl rfl) h0 (fun x hx => hlt0 x (by simp [hx])) (sized_part hsz (j := 0) rfl rfl)
 obtain ⟨x1, hx1⟩ := open_deltasN_said (hval 1 40 v1 rfl rfl) h1 (fun x hx => hlt0 x (by simp [hx])) (sized_part hsz (j := 1) rfl rfl)
 exact (walk_WorldOwn _ x0 _ x1 W hx0 hx1).mono fun e W' ⟨he, hb⟩ => ⟨_, he, post_of_below Try.laidOut Try.underlying4 rfl rfl (of_decide_eq_true (by kernel_rfl)) hW' rfl rfl rfl hb⟩
set_option maxRecDepth 100000 in
theorem lifted_WorldOwn (os : Os) (started : os.Started) (H : Type) (enc : TypeId × Value → H) :
 ReturnsInHanded {} Try.checked os 13 .any (Rows.worldOwnSpec.pre6 enc Try.prog Try.f13 Rows.worldOwnRow.domain false) (Rows.worldOwnSpec.post enc Try.prog Try.f13 false true false false) := by
 refine returnsInHanded_of_change_sized (C := Try.checked) Try.own started (by kernel_rfl) Try.func13
  (ChangeSpec.witness6 (enc := enc) (C := Try.checked) false ⟨#[], #[.slice none 0 0, .slice none 0 0], []⟩ 8 (by kernel_rfl) (by kernel_rfl) (by kernel_rfl) (by kernel_rfl)) ?_
 intro W base args ds gs before hval hW _ hsz _
 exact contract_WorldOwn H enc W base args ds gs before hval hW hsz
theorem worldOwn_holds : Rows.WorldOwnSaid :=
 OpenClaim.holds_of_wide 13 Try.f13 rfl rfl rfl rfl rfl rfl rfl ⟨rfl, rfl, rfl, rfl, rfl⟩ rfl rfl rfl rfl rfl (by kernel_rfl) Try.func13 (by kernel_rfl)
  (of_decide_eq_true (by kernel_rfl)) (by unfold Func.isWrapper; first | (rw [if_pos (by decide +kernel)]; kernel_rfl) | (rw [if_neg (by decide +kernel)]; exact ⟨rfl, rfl⟩))
  (fun os started H enc _ => lifted_WorldOwn os started H enc)
end Go.Proofs.Ytokngfinnieccaa
