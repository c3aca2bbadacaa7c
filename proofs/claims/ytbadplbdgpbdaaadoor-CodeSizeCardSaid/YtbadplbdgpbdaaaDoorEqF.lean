/- Structs compared: field by field. Faults compared. -/
import Derived.Test.YtbadplbdgpbdaaaDoorApp
import Derived.Laws.StructEq
import Derived.Test.YtbadplbdgpbdaaaDoorRows
namespace Go.Proofs.YtbadplbdgpbdaaaDoor
open Go.RowKit

/-- fields of these types, at these places, compared -/
def eqAt (d : Nat) (xs ys : Array Value) : List (TypeId × Nat) → Sem Bool
  | [] => pure true
  | (t, o) :: l => do
    let a ← part t xs o
    let b ← part t ys o
    let r ← Op.equalIn d t a b
    if (!r) = true then pure false else eqAt d xs ys l
theorem eqFields_eqAt (d : Nat) (xs ys : Array Value) : ∀ fs : List Field, fs.all (fun f => decide (f.name ≠ "_")) = true → Op.eqFields d xs ys fs = eqAt d xs ys (fs.map fun f => (f.type, f.offset))
  | [], _ => rfl
  | f :: fs, h => by
    simp only [List.all_cons, Bool.and_eq_true, decide_eq_true_eq] at h
    simp only [Op.eqFields, List.map_cons, eqAt]
    rw [if_pos h.1, eqFields_eqAt d xs ys fs h.2]
theorem run_struct_eq {P : Program} {t : TypeId} (l : List (TypeId × Nat)) (ht : P.underlying t = some (.struct (P.fieldsOf t))) (hp : P.stoodInHeld t = false)
    (hf : ((P.fieldsOf t).toList.all fun f => decide (f.name ≠ "_")) = true) (hl : ((P.fieldsOf t).toList.map fun f => (f.type, f.offset)) = l) (d : Nat) (xs ys : Array Value) (w : World) :
    (Op.equalIn (d + 1) t (.agg xs) (.agg ys)).run P w = (eqAt d xs ys l).run P w := by
  rw [run_equalIn_struct w d t xs ys ht hp, eqFields_eqAt d xs ys _ hf, hl]
theorem run_eqAt_cell {P : Program} (d : Nat) (xs ys : Array Value) (t : TypeId) (o : Nat) (l : List (TypeId × Nat)) (a b : Value) (r : Bool) (w : World) (ha : (isAgg t).run P w = .ok false w) (hx : xs[o]? = some a) (hy : ys[o]? = some b)
    (hr : (Op.equalIn d t a b).run P w = .ok r w) : (eqAt d xs ys ((t, o) :: l)).run P w = if r = true then (eqAt d xs ys l).run P w else .ok false w := by
  simp only [eqAt, Sem.run_bind, run_part_plain, ha, Result.andThen_ok, Bool.false_eq_true, if_false, hx, hy, hr]
  cases r <;> simp
theorem run_eqAt_nil {P : Program} (d : Nat) (xs ys : Array Value) (w : World) : (eqAt d xs ys []).run P w = .ok true w := rfl

end Go.Proofs.YtbadplbdgpbdaaaDoor

namespace Go.Proofs.YtbadplbdgpbdaaaDoor
open Go.RowKit

/-- two faults -/
def eqF (a b c d : Int) : Bool := (a == c) && (b == d)
theorem eqF_self (a b : Int) : eqF a b a b = true := by unfold eqF; simp
@[go_sem ↓] theorem run_eq_fault (a b c d : Int) (w : World) : (Op.equalIn 10000 26 (.agg #[.int .i64 a, .int .i64 b]) (.agg #[.int .i64 c, .int .i64 d])).run Tryd.prog w = .ok (eqF a b c d) w := by
  rw [run_struct_eq [(24, 0), (3, 1)] (by kernel_rfl) (by kernel_rfl) (by kernel_rfl) (by kernel_rfl) 9999]
  rw [run_eqAt_cell _ _ _ _ _ _ (.int .i64 a) (.int .i64 c) (a == c) w (Tryd.isAgg24 w) rfl rfl (run_equalIn_int w _ _ _ _ _ _ Tryd.underlying24)]
  rw [run_eqAt_cell _ _ _ _ _ _ (.int .i64 b) (.int .i64 d) (b == d) w (Tryd.isAgg3 w) rfl rfl (run_equalIn_int w _ _ _ _ _ _ Tryd.underlying3)]
  rw [run_eqAt_nil]
  unfold eqF
  cases a == c <;> cases b == d <;> simp
@[go_sem] theorem run_eqGuard_fault (op : BinOp) (x y : Operand) (xs ys : Array Value) (w : World) : (eqGuard op 26 x y (.agg xs) (.agg ys)).run Tryd.prog w = .ok () w := run_eqGuard_agg w op _ x y xs ys (by kernel_rfl)

end Go.Proofs.YtbadplbdgpbdaaaDoor
