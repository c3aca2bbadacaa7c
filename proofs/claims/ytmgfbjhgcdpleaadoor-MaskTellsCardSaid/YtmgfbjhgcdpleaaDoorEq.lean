/- Spans compared. -/
import Derived.Test.YtmgfbjhgcdpleaaDoorEqB
import Derived.Test.YtmgfbjhgcdpleaaDoorRows
namespace Go.Proofs.YtmgfbjhgcdpleaaDoor
open Go.RowKit

/-- two ints and two ints -/
def eq4 (a b c d : Int) : Bool := (a == c) && (b == d)
theorem eq4_iff {a b c d : Int} : eq4 a b c d = true ↔ a = c ∧ b = d := by unfold eq4; simp
theorem eq4_prod (x y : Int × Int) : eq4 x.1 x.2 y.1 y.2 = (x == y) := by
  rw [Bool.eq_iff_iff, eq4_iff, beq_iff_eq, Prod.ext_iff]
@[go_sem ↓] theorem run_eq_span (a b c d : Int) (w : World) : (Op.equalIn 10000 30 (.agg #[.int .i64 a, .int .i64 b]) (.agg #[.int .i64 c, .int .i64 d])).run Tryd.prog w = .ok (eq4 a b c d) w := by
  rw [run_struct_eq [(3, 0), (3, 1)] (by kernel_rfl) (by kernel_rfl) (by kernel_rfl) (by kernel_rfl) 9999]
  rw [run_eqAt_cell _ _ _ _ _ _ (.int .i64 a) (.int .i64 c) (a == c) w (Tryd.isAgg3 w) rfl rfl (run_equalIn_int w _ _ _ _ _ _ Tryd.underlying3)]
  rw [run_eqAt_cell _ _ _ _ _ _ (.int .i64 b) (.int .i64 d) (b == d) w (Tryd.isAgg3 w) rfl rfl (run_equalIn_int w _ _ _ _ _ _ Tryd.underlying3)]
  rw [run_eqAt_nil]
  unfold eq4
  cases a == c <;> cases b == d <;> simp
@[go_sem] theorem run_eqGuard_span (op : BinOp) (x y : Operand) (xs ys : Array Value) (w : World) : (eqGuard op 30 x y (.agg xs) (.agg ys)).run Tryd.prog w = .ok () w := run_eqGuard_agg w op _ x y xs ys (by kernel_rfl)

end Go.Proofs.YtmgfbjhgcdpleaaDoor
