/- min and max of ints, without parting: arms for the walk. -/
import Derived.Test.YtfncpcmaplhojaaBase
namespace Go.Proofs.Ytfncpcmaplhojaa
open Go.ChangeShapes Go.WideShapes Go.RowKit
set_option linter.unusedVariables false
set_option linter.unusedSimpArgs false
set_option maxRecDepth 100000
section
variable {P : Program}
theorem run_min3 (ts : Array TypeId) (t : TypeId) (w : World) (a b c : Int) : (Builtin.min_ ts t #[.int .i64 a, .int .i64 b, .int .i64 c]).run P w = .ok (.int .i64 (min (min a b) c)) w := by
  have e (x y : Int) : (if y < x then y else x) = min x y := by rw [Int.min_def]; split <;> split <;> omega
  simp only [Builtin.min_, List.foldlM, Builtin.min2, Sem.run_bind, Sem.run_pure, Result.andThen_ok, e, bind_pure, pure_bind]
theorem run_min2 (ts : Array TypeId) (t : TypeId) (w : World) (a b : Int) : (Builtin.min_ ts t #[.int .i64 a, .int .i64 b]).run P w = .ok (.int .i64 (min a b)) w := by
  have e (x y : Int) : (if y < x then y else x) = min x y := by rw [Int.min_def]; split <;> split <;> omega
  simp only [Builtin.min_, List.foldlM, Builtin.min2, Sem.run_bind, Sem.run_pure, Result.andThen_ok, e, bind_pure]
theorem run_max2 (ts : Array TypeId) (t : TypeId) (w : World) (a b : Int) : (Builtin.max_ ts t #[.int .i64 a, .int .i64 b]).run P w = .ok (.int .i64 (max a b)) w := by
  have e (x y : Int) : (if x < y then y else x) = max x y := by rw [Int.max_def]; split <;> split <;> omega
  simp only [Builtin.max_, List.foldlM, Builtin.max2, Sem.run_bind, Sem.run_pure, Result.andThen_ok, e, bind_pure]
theorem wpList_min3 {ops : Array Oper} {rest : List Oper} {o : Oper} {a : Act} {Q : Exit → Act → World → Prop} {w : World} (hgd : o.guard = none) (x y z : Operand) (ts : Array TypeId)
    (ho : o.op = .call { callee := .builtin .min, args := #[x, y, z], argTypes := ts }) (A B C N : Int) (hx : a.eval x = .int .i64 A) (hy : a.eval y = .int .i64 B) (hz : a.eval z = .int .i64 C) (hN : min (min A B) C = N)
    (h : wpList P ops Q rest (a.put o.dst (.int .i64 N)) w) : wpList P ops Q (o :: rest) a w :=
  wpList_plain hgd fun _ hK => by
    unfold Oper.wp execOp
    simp only [ho, resolve, invoke, builtin, Sem.run_bind, Sem.run_pure, Result.andThen_ok, List.map_toArray, List.map_cons, List.map_nil, hx, hy, hz, run_min3, hN]
    exact hK _ _ h
theorem wpList_min2 {ops : Array Oper} {rest : List Oper} {o : Oper} {a : Act} {Q : Exit → Act → World → Prop} {w : World} (hgd : o.guard = none) (x y : Operand) (ts : Array TypeId)
    (ho : o.op = .call { callee := .builtin .min, args := #[x, y], argTypes := ts }) (A B N : Int) (hx : a.eval x = .int .i64 A) (hy : a.eval y = .int .i64 B) (hN : min A B = N)
    (h : wpList P ops Q rest (a.put o.dst (.int .i64 N)) w) : wpList P ops Q (o :: rest) a w :=
  wpList_plain hgd fun _ hK => by
    unfold Oper.wp execOp
    simp only [ho, resolve, invoke, builtin, Sem.run_bind, Sem.run_pure, Result.andThen_ok, List.map_toArray, List.map_cons, List.map_nil, hx, hy, run_min2, hN]
    exact hK _ _ h
theorem wpList_max2 {ops : Array Oper} {rest : List Oper} {o : Oper} {a : Act} {Q : Exit → Act → World → Prop} {w : World} (hgd : o.guard = none) (x y : Operand) (ts : Array TypeId)
    (ho : o.op = .call { callee := .builtin .max, args := #[x, y], argTypes := ts }) (A B N : Int) (hx : a.eval x = .int .i64 A) (hy : a.eval y = .int .i64 B) (hN : max A B = N)
    (h : wpList P ops Q rest (a.put o.dst (.int .i64 N)) w) : wpList P ops Q (o :: rest) a w :=
  wpList_plain hgd fun _ hK => by
    unfold Oper.wp execOp
    simp only [ho, resolve, invoke, builtin, Sem.run_bind, Sem.run_pure, Result.andThen_ok, List.map_toArray, List.map_cons, List.map_nil, hx, hy, run_max2, hN]
    exact hK _ _ h
end
end Go.Proofs.Ytfncpcmaplhojaa
